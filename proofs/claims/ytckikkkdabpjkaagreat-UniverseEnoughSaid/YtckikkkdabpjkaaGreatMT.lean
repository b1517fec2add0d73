/-
 slices.IndexFunc and DeleteFunc of roles, by a closure that reads alone.
-/
import Derived.Test.YtckikkkdabpjkaaGreatKitSq
import Derived.Test.YtckikkkdabpjkaaGreatStmEql
import Derived.Test.YtckikkkdabpjkaaGreatRowAt
import Derived.Test.YtckikkkdabpjkaaGreatStmAll
import Derived.Deep.LoopGhost
import Derived.BigQuiet
import Derived.Deep.QuietTactic
import Derived.WalkSpells
import Derived.Test.YtckikkkdabpjkaaGreatMG
import Derived.Test.YtckikkkdabpjkaaGreatME
set_option linter.unusedVariables false
set_option linter.unusedSimpArgs false
set_option linter.unnecessarySimpa false
namespace Go.Proofs.YtckikkkdabpjkaaGreat
open Go.ChangeShapes Go.WideShapes Go.ChangeAt Go.RowKit Go.Deep
/-- What the index of the first that goes says. -/
def IxDR (l : List Rol) (del : Rol → Bool) (r : Int) : Prop := (r = -1 ∧ ∀ (j : Nat) (y : Rol), l[j]? = some y → del y = false) ∨ ∃ k : Nat, r = (k : Int) ∧ k < l.length ∧ (∀ (j : Nat) (y : Rol), j < k → l[j]? = some y → del y = false) ∧ ∀ y : Rol, l[k]? = some y → del y = true
theorem filter_allR {l : List Rol} {del : Rol → Bool} (h : ∀ (j : Nat) (y : Rol), l[j]? = some y → del y = false) : l.filter (fun y => !del y) = l := List.filter_eq_self.2 fun y hy => by
 obtain ⟨j, hj⟩ := List.getElem?_of_mem hy
 rw [h j y hj]
 rfl
/-- Where the deletion stands: so many looked at, so many kept. -/
structure DIR (l : List Rol) (del : Rol → Bool) (j i : Nat) (cur : List Rol) : Prop where
 len : cur.length = l.length
 le : i < j
 front : cur.take i = (l.take j).filter (fun y => !del y)
 rest : ∀ t, j ≤ t → cur[t]? = l[t]?
theorem DIR.start {l : List Rol} {del : Rol → Bool} {k : Nat} (hk : k < l.length) (h1 : ∀ (j : Nat) (y : Rol), j < k → l[j]? = some y → del y = false) (h2 : ∀ y : Rol, l[k]? = some y → del y = true) : DIR l del (k + 1) k l := by
 refine ⟨rfl, Nat.lt_succ_self _, ?_, fun t _ => rfl⟩
 have e : l.take (k + 1) = l.take k ++ [l[k]] := by rw [List.take_add_one, List.getElem?_eq_getElem hk]; rfl
 rw [e, List.filter_append, filter_allR (fun j y hj => by
  have hjl := (List.getElem?_eq_some_iff.1 hj).1
  rw [List.length_take] at hjl
  rw [List.getElem?_take_of_lt (by omega)] at hj
  exact h1 j y (by omega) hj)]
 have := h2 l[k] (List.getElem?_eq_getElem hk)
 simp [this]
theorem take_nextR {l : List Rol} {j : Nat} {x : Rol} (hx : l[j]? = some x) (p : Rol → Bool) : (l.take (j + 1)).filter p = (l.take j).filter p ++ (if p x then [x] else []) := by
 rw [List.take_add_one, hx, List.filter_append]
 congr 1
 show List.filter p [x] = _
 by_cases h : p x = true
 ·simp [h]
 ·simp [h]
theorem DIR.gone {l cur : List Rol} {del : Rol → Bool} {j i : Nat} {x : Rol} (q : DIR l del j i cur) (hx : l[j]? = some x) (h : del x = true) : DIR l del (j + 1) i cur := by
 refine ⟨q.len, Nat.lt_succ_of_lt q.le, ?_, fun t ht => q.rest t (by omega)⟩
 rw [take_nextR hx, q.front]
 simp [h]
theorem DIR.kept {l cur : List Rol} {del : Rol → Bool} {j i : Nat} {x : Rol} (q : DIR l del j i cur) (hx : l[j]? = some x) (h : del x = false) : DIR l del (j + 1) (i + 1) (cur.set i x) := by
 have hjl := (List.getElem?_eq_some_iff.1 hx).1
 have hle := q.le
 have hln := q.len
 refine ⟨by rw [List.length_set]; exact q.len, by omega, ?_, fun t ht => ?_⟩
 ·rw [take_nextR hx, ← q.front, h, List.take_add_one, List.getElem?_set_self (by omega)]
  congr 1
  ·exact List.take_set_of_le (Nat.le_refl _)
 ·rw [List.getElem?_set_ne (by omega)]
  exact q.rest t (by omega)
set_option maxRecDepth 100000
set_option maxHeartbeats 6400000
theorem rindexF_spec {W : World} {g cap cb fn : Nat} {l : List Rol} {del : Rol → Bool} (h : HoK rolE W g 0 l) (hle : l.length ≤ cap) (hl : l.length ≤ 10000) (hEn : ∀ (zs : Array Value) (w : World), (callFunc fn zs).run Tryz.prog w = .ok (.enter fn zs) w) (hF : ∀ (y : Rol) (w : World), Keeps (fun q => q = g) W w → Calls Tryz.prog fn #[rolV2 y, .pointer (some ⟨cb, 0, none⟩)] w fun e w' => e = .returned (.bool (del y)) ∧ Hid (KF w w')) :
 Calls Tryz.prog 123 #[.slice (some ⟨g, 0, none⟩) l.length cap, .func (.func fn) #[] #[.pointer (some ⟨cb, 0, none⟩)]] W fun e W' => ∃ r : Int, e = .returned (.int .i64 r) ∧ Hid (IxDR l del r ∧ KF W W') := by
 have HH := Lib.hid h
 have HF := Lib.hid hF
 have HEN := Lib.hid hEn
 obtain ⟨n, hn⟩ : ∃ n, l.length = n := ⟨_, rfl⟩
 rw [hn] at hle hl ⊢
 have HN := Lib.hid hn
 clear h hF hn hEn
 go_enter Tryz.func123, Tryz.ntmps123
 go_wp2_with fail
 go_loopg [8] n (fun g t wx => ∃ i : Nat, i ≤ n ∧ g = n - i ∧ t = .int .i64 i ∧ Hid (KF W wx ∧ ∀ (j : Nat) (y : Rol), j < i → l[j]? = some y → del y = false))
 case atStart => exact ⟨0, Nat.zero_le _, rfl, rfl, Keeps.refl _ _, fun j y hj _ => absurd hj (Nat.not_lt_zero _)⟩
 case round =>
  obtain ⟨i, hi, rfl, rfl, HI⟩ := hrel
  by_cases hlt : i < n
  ·have hiI : (i : Int) < (n : Int) := by omega
   have hwi : IntKind.i64.wrap ((i : Int) + 1) = (i : Int) + 1 := IntWalk.i64_in _ (by omega)
   obtain ⟨x, hx⟩ : ∃ y, l[i]? = some y := ⟨_, List.getElem?_eq_getElem (by rw [HN.out]; exact hlt)⟩
   have hicap : i < cap := by omega
   have hcx := fun q u hu => (HH.out.2 i x hx q u hu).1
   have ex : 0 + i * rolE.k = i * 2 := by show 0 + i * 2 = _; omega
   rw [ex] at hcx
   have HY := Lib.hid hx
   have HC := Lib.hid (HF.out x wr (HI.out.1.mono (fun _ _ z => z.elim)))
   obtain ⟨d, hd⟩ : ∃ d, del x = d := ⟨_, rfl⟩
   rw [hd] at HC
   have HDD := Lib.hid hd
   obtain ⟨xr1, xr2⟩ := x
   unfold rolV2 at HC
   simp only at HC
   have c0 : wr.cell? ⟨g, i * 2, none⟩ = some (.string ⟨xr1.toArray⟩) := (HI.out.1.cell (p := ⟨g, i * 2 + 0, none⟩) (World.block_lt_of_cell? _ ⟨g, i * 2 + 0, none⟩ (hcx 0 _ rfl)) (fun x => x)).trans (hcx 0 _ rfl)
   have c1 : wr.cell? ⟨g, i * 2 + 1, none⟩ = some (.string ⟨xr2.toArray⟩) := (HI.out.1.cell (p := ⟨g, i * 2 + 1, none⟩) (World.block_lt_of_cell? _ ⟨g, i * 2 + 1, none⟩ (hcx 1 _ rfl)) (fun x => x)).trans (hcx 1 _ rfl)
   clear hcx ex hx hd
   go_wp2_with fail
   rw [HEN.out, Oper.upon_enter]
   refine HC.out.mono ?_
   rintro e w2 ⟨rfl, hk⟩
   have HK2 : Hid (KF W w2) := HI.out.1.trans hk.out
   have HIO := Lib.hid HI.out.2
   clear HC hk HI c0 c1
   cases d
   ·have HN2 : Hid (KF W w2 ∧ ∀ (j : Nat) (y : Rol), j < i + 1 → l[j]? = some y → del y = false) := ⟨HK2.out, fun j z hj hz => by
     rcases Nat.lt_or_ge j i with k | k
     ·exact HIO.out j z k hz
     ·obtain rfl : j = i := by omega
      have h := HY.out
      rw [hz] at h
      rw [Option.some.inj h]
      exact HDD.out⟩
    clear HK2 HIO
    go_wp2_with fail
    go_roundg (n - (i + 1))
    case measure => omega
    case rel => exact ⟨i + 1, by omega, rfl, by go_num, HN2⟩
   ·have HP : Hid (IxDR l del (i : Int) ∧ KF W w2) := ⟨.inr ⟨i, rfl, by rw [HN.out]; exact hlt, HIO.out, fun y hy => by
     have h := HY.out
     rw [hy] at h
     rw [Option.some.inj h]
     exact HDD.out⟩, HK2.out⟩
    clear HK2 HIO
    go_wp2_with fail
    go_ret
    exact ⟨_, rfl, HP⟩
  ·obtain rfl : i = n := by omega
   have hiI : ¬ (i : Int) < (i : Int) := by omega
   have HP : Hid (IxDR l del (-1) ∧ KF W wr) := ⟨.inl ⟨rfl, fun j y hj => HI.out.2 j y (by have := (List.getElem?_eq_some_iff.1 hj).1; have := HN.out; omega) hj⟩, HI.out.1⟩
   clear HI
   go_wp2_with fail
   go_ret
   exact ⟨_, rfl, HP⟩
theorem rindexF_none (W : World) (cb fn : Nat) : Calls Tryz.prog 123 #[.slice none 0 0, .func (.func fn) #[] #[.pointer (some ⟨cb, 0, none⟩)]] W fun e W' => e = .returned (.int .i64 (-1)) ∧ W = W' := by
 go_enter Tryz.func123, Tryz.ntmps123
 go_wp2_with fail
 go_loopg [8] 0 (fun g t wx => g = 0 ∧ t = .int .i64 0 ∧ wx = W)
 case atStart => exact ⟨rfl, rfl, rfl⟩
 case round =>
  obtain ⟨rfl, rfl, rfl⟩ := hrel
  go_wp2_with fail
  go_ret
  exact ⟨rfl, rfl⟩
theorem rdel_none (W : World) (cb fn : Nat) : Calls Tryz.prog 73 #[.slice none 0 0, .func (.func fn) #[] #[.pointer (some ⟨cb, 0, none⟩)]] W fun e W' => e = .returned (.slice none 0 0) ∧ W = W' := by
 have HC := Lib.hid (rindexF_none W cb fn)
 go_enter Tryz.func73, Tryz.ntmps73
 go_wp2_with fail
 refine HC.out.mono ?_
 rintro e w2 ⟨rfl, rfl⟩
 clear HC
 go_wp2_with fail
 go_ret
 exact ⟨rfl, rfl⟩
theorem rdel_spec {W : World} {g cap cb fn : Nat} {l : List Rol} {del : Rol → Bool} (h : HoK rolE W g 0 l) (hle : l.length ≤ cap) (hl : l.length ≤ 10000) (hEn : ∀ (zs : Array Value) (w : World), (callFunc fn zs).run Tryz.prog w = .ok (.enter fn zs) w) (hF : ∀ (y : Rol) (w : World), Keeps (fun q => q = g) W w → Calls Tryz.prog fn #[rolV2 y, .pointer (some ⟨cb, 0, none⟩)] w fun e w' => e = .returned (.bool (del y)) ∧ Hid (KF w w')) :
 Calls Tryz.prog 73 #[.slice (some ⟨g, 0, none⟩) l.length cap, .func (.func fn) #[] #[.pointer (some ⟨cb, 0, none⟩)]] W fun e W' => ∃ i : Nat, e = .returned (.slice (some ⟨g, 0, none⟩) i cap) ∧ Hid ((i = (l.filter (fun y => !del y)).length ∧ i ≤ l.length ∧ HoK rolE W' g 0 (l.filter (fun y => !del y))) ∧ Keeps (fun q => q = g) W W') := by
 have HX := Lib.hid (rindexF_spec h hle hl hEn hF)
 have HH := Lib.hid h
 have HF := Lib.hid hF
 have HEN := Lib.hid hEn
 obtain ⟨n, hn⟩ : ∃ n, l.length = n := ⟨_, rfl⟩
 rw [hn] at hle hl HX ⊢
 have HN := Lib.hid hn
 clear h hF hn hEn
 go_enter Tryz.func73, Tryz.ntmps73
 go_wp2_with fail
 refine HX.out.mono ?_
 rintro e w1 ⟨r, rfl, hr⟩
 have HK1 : Hid (Keeps (fun q => q = g) W w1) := hr.out.2.mono (fun _ _ z => z.elim)
 have HH1 : Hid (HoK rolE w1 g 0 l) := HH.out.keeps hr.out.2 (fun z => z)
 clear HX
 rcases hr.out.1 with ⟨rfl, hall⟩ | ⟨k, rfl, hk, ha, hb⟩
 ·have HP : Hid ((n = (l.filter (fun y => !del y)).length ∧ n ≤ n ∧ HoK rolE w1 g 0 (l.filter (fun y => !del y))) ∧ Keeps (fun q => q = g) W w1) := by
   rw [filter_allR hall]
   exact ⟨⟨HN.out.symm, Nat.le_refl _, HH1.out⟩, HK1.out⟩
  clear hr hall HH1 HK1
  go_wp2_with fail
  go_ret
  exact ⟨_, rfl, HP⟩
 ·have HDI := Lib.hid (DIR.start hk ha hb)
  have hkn : k < n := by rw [← HN.out]; exact hk
  have hkm : ¬ (k : Int) = -1 := by omega
  have hkmb : ((k : Int) == -1) = false := beq_eq_false_iff_ne.2 hkm
  have hwk : IntKind.i64.wrap ((k : Int) + 1) = ((k + 1 : Nat) : Int) := (IntWalk.i64_in _ (by omega)).trans (by omega)
  clear hr ha hb hk
  go_wp2_with fail
  go_loopg [5, 6] (n - (k + 1)) (fun gg t5 t6 wx => ∃ (i j : Nat) (cur : List Rol), j ≤ n ∧ gg = n - j ∧ t5 = .int .i64 i ∧ t6 = .int .i64 j ∧ Hid (DIR l del j i cur ∧ HoK rolE wx g 0 cur ∧ Keeps (fun q => q = g) W wx))
  case atStart => exact ⟨k, k + 1, l, by omega, rfl, rfl, by first | rfl | go_num, HDI.out, HH1.out, HK1.out⟩
  case round =>
   clear HDI HH1 HK1
   obtain ⟨i, j, cur, hj, rfl, rfl, rfl, HI⟩ := hrel
   have hij := HI.out.1.le
   by_cases hlt : j < n
   ·have hjI : (j : Int) < (n : Int) := by omega
    have hwj : IntKind.i64.wrap ((j : Int) + 1) = (j : Int) + 1 := IntWalk.i64_in _ (by omega)
    have hwi : IntKind.i64.wrap ((i : Int) + 1) = (i : Int) + 1 := IntWalk.i64_in _ (by omega)
    have hjcap : j < cap := by omega
    have hicap : i < cap := by omega
    have hinI : (i : Int) < (n : Int) := by omega
    obtain ⟨x, hx⟩ : ∃ y, l[j]? = some y := ⟨_, List.getElem?_eq_getElem (by rw [HN.out]; exact hlt)⟩
    have hx2 : cur[j]? = some x := by rw [HI.out.1.rest j (Nat.le_refl _)]; exact hx
    obtain ⟨z, hz⟩ : ∃ z, cur[i]? = some z := ⟨_, List.getElem?_eq_getElem (by rw [HI.out.1.len, HN.out]; omega)⟩
    have hcx := fun q u hu => (HI.out.2.1.2 j x hx2 q u hu).1
    have ex : 0 + j * rolE.k = j * 2 := by show 0 + j * 2 = _; omega
    rw [ex] at hcx
    have HY := Lib.hid hx
    have HZ := Lib.hid hz
    have HCF := Lib.hid (HF.out x)
    obtain ⟨d, hd⟩ : ∃ d, del x = d := ⟨_, rfl⟩
    rw [hd] at HCF
    have HDD := Lib.hid hd
    obtain ⟨xr1, xr2⟩ := x
    unfold rolV2 at HCF
    simp only at HCF
    have c0 : wr.cell? ⟨g, j * 2, none⟩ = some (.string ⟨xr1.toArray⟩) := hcx 0 _ rfl
    have c1 : wr.cell? ⟨g, j * 2 + 1, none⟩ = some (.string ⟨xr2.toArray⟩) := hcx 1 _ rfl
    have hal := (MapKept.heap_alloc wr (bR xr1 xr2)).1
    have hka : KF wr (wr.alloc (bR xr1 xr2)) := (Keeps.refl _ _).alloc _
    obtain ⟨b, hb⟩ : ∃ b, wr.heap.size = b := ⟨_, rfl⟩
    rw [hb] at hal
    have hgb : g < b := by have := HI.out.2.1.1; omega
    have HB := Lib.hid hal
    have HI2 : Hid (HoK rolE (wr.alloc (bR xr1 xr2)) g 0 cur ∧ Keeps (fun q => q = g) W (wr.alloc (bR xr1 xr2))) := ⟨HI.out.2.1.keeps hka (fun z => z), HI.out.2.2.trans (hka.mono (fun _ _ z => z.elim))⟩
    have HDI := Lib.hid HI.out.1
    go_upto_region 8 with fail
    clear hal hka hb HI hcx ex hx hx2 hz hd c0 c1
    generalize wr.alloc (bR xr1 xr2) = w2 at *
    obtain ⟨p0, f0, p1, f1⟩ := cf2 HB.out
    go_wp2_with fail
    rw [HEN.out, Oper.upon_enter]
    refine (HCF.out _ HI2.out.2).mono ?_
    rintro e w3 ⟨rfl, hk⟩
    have HB3 := Lib.hid ((hk.out.block _ (lt_of_heap HB.out) (fun x => x)).trans HB.out)
    have HI3 : Hid (HoK rolE w3 g 0 cur ∧ Keeps (fun q => q = g) W w3) := ⟨HI2.out.1.keeps hk.out (fun z => z), HI2.out.2.trans (hk.out.mono (fun _ _ z => z.elim))⟩
    clear HCF hk HB HI2 p0 f0 p1 f1
    cases d
    ·have HPW : Hid (HoK rolE (w3.setCells g (i * 2) (rolEnc (xr1, xr2))) g 0 (cur.set i (xr1, xr2)) ∧ Keeps (fun q => q = g) W (w3.setCells g (i * 2) (rolEnc (xr1, xr2)))) := by
      have q := HI3.out.1.put (n := i) (by rw [HDI.out.len, HN.out]; omega) (xr1, xr2)
      rw [show 0 + i * rolE.k = i * 2 by show 0 + i * 2 = _; omega] at q
      exact ⟨q.1, HI3.out.2.trans q.2⟩
     have HDN := Lib.hid (HDI.out.kept HY.out HDD.out)
     have hcz := fun q u hu => HI3.out.1.2 i z HZ.out q u hu
     rw [show 0 + i * rolE.k = i * 2 by show 0 + i * 2 = _; omega] at hcz
     obtain ⟨zr1, zr2⟩ := z
     obtain ⟨r0, v0⟩ : w3.cell? ⟨g, i * 2, none⟩ = some (.string ⟨zr1.toArray⟩) ∧ w3.frozen? ⟨g, i * 2, none⟩ = false := hcz 0 _ rfl
     obtain ⟨r1, v1⟩ : w3.cell? ⟨g, i * 2 + 1, none⟩ = some (.string ⟨zr2.toArray⟩) ∧ w3.frozen? ⟨g, i * 2 + 1, none⟩ = false := hcz 1 _ rfl
     obtain ⟨p0, f0, p1, f1⟩ := cf2 HB3.out
     clear hcz HI3 HDI HB3
     go_wp2_with fail
     go_roundg (n - (j + 1))
     case measure => omega
     case rel => exact ⟨i + 1, j + 1, _, by omega, rfl, by first | rfl | go_num, by first | rfl | go_num, HDN.out, HPW.out⟩
    ·have HDN := Lib.hid (HDI.out.gone HY.out HDD.out)
     clear HDI HB3
     go_wp2_with fail
     go_roundg (n - (j + 1))
     case measure => omega
     case rel => exact ⟨i, j + 1, cur, by omega, rfl, rfl, by first | rfl | go_num, HDN.out, HI3.out⟩
   ·obtain rfl : j = n := by omega
    have hjI : ¬ (j : Int) < (j : Int) := by omega
    have hll := HI.out.1.len
    have hinI : (i : Int) ≤ (j : Int) := by omega
    have hicap : i ≤ cap := by omega
    have hni : ¬ (cap = i) := by omega
    have hcl : ∀ (ty : TypeId) (c' : Nat), (Builtin.clear_ #[23] ty #[.slice (some ⟨g, i * 2, none⟩) (j - i) c']).run Tryz.prog wr = .ok (.tuple #[]) (wr.setCells g (i * 2) (rolZero (j - i))) := fun ty c' => by
     have q := rol_clear HI.out.2.1 (n := i) (by rw [hll, HN.out]; omega) ty c'
     rw [hll, HN.out] at q
     exact q
    have HE : Hid ((i = (l.filter (fun y => !del y)).length ∧ i ≤ j ∧ HoK rolE (wr.setCells g (i * 2) (rolZero (j - i))) g 0 (l.filter (fun y => !del y))) ∧ Keeps (fun q => q = g) W (wr.setCells g (i * 2) (rolZero (j - i)))) := by
     have q := HI.out.2.1.past i (rolZero (j - i))
     have hf := HI.out.1.front
     rw [List.take_of_length_le (l := l) (by rw [HN.out]; exact Nat.le_refl _)] at hf
     rw [← hf]
     exact ⟨⟨by rw [List.length_take]; have := HN.out; omega, by omega, q.1⟩, HI.out.2.2.trans q.2⟩
    clear HI hll
    go_wp2_with (simp only [hcl])
    go_ret
    exact ⟨_, rfl, HE⟩
end Go.Proofs.YtckikkkdabpjkaaGreat
/-
 slices.DeleteFunc of a row of one's own: statements, roles.
-/
set_option linter.unusedVariables false
set_option linter.unusedSimpArgs false
set_option linter.unnecessarySimpa false
namespace Go.Proofs.YtckikkkdabpjkaaGreat
open Go.ChangeShapes Go.WideShapes Go.ChangeAt Go.RowKit Go.Deep
set_option maxRecDepth 100000
set_option maxHeartbeats 3200000
theorem mdel_own {W : World} {base cb fn : Nat} {v : Value} {l : List Stm} {del : Stm → Bool} (h : OwnK stmE base W v l) (hl : l.length ≤ 10000) (hEn : ∀ (zs : Array Value) (w : World), (callFunc fn zs).run Tryz.prog w = .ok (.enter fn zs) w) (hF : ∀ (y : Stm) (w : World), Keeps (fun q => v.ownBlock = some q) W w → Calls Tryz.prog fn #[stmV y, .pointer (some ⟨cb, 0, none⟩)] w fun e w' => e = .returned (.bool (del y)) ∧ Hid (Keeps (fun _ => False) w w')) :
 Calls Tryz.prog 70 #[v, .func (.func fn) #[] #[.pointer (some ⟨cb, 0, none⟩)]] W fun e W' => ∃ v', e = .returned v' ∧ Hid (RdX stmE W' v' (l.filter (fun y => !del y)) (fun k => base ≤ k) ∧ Keeps (fun q => v.ownBlock = some q) W W') := by
 rcases h.form with ⟨rfl, rfl⟩ | ⟨g, cap, cur, rfl, hgb, hh, hle, hmx, hrest⟩
 ·exact (mdel_none W cb fn).mono fun e W' ⟨q1, q2⟩ => ⟨_, q1, by rw [← q2]; exact rdX_nil stmE _ _, by rw [← q2]; exact Keeps.refl _ _⟩
 ·have HO : HoK stmE W g 0 l := by
   refine ⟨lt_of_heap hh, fun j x hj i u hi => ⟨?_, Lib.frozen_of_heap hh _⟩⟩
   rw [Nat.zero_add]
   exact OwnK.cell (cap := cap) hh hrest.2 j x hj i u hi
  refine (mdel_spec (cb := cb) (fn := fn) (del := del) HO hle hl hEn (fun y w hk => hF y w (hk.mono (fun q _ e => by have e : q = g := e; rw [e]; rfl)))).mono fun e W' ⟨i, q1, q2⟩ => ⟨_, q1, ⟨⟨?_, fun k hk => ?_⟩, q2.out.2.mono (fun q _ e => by have e : q = g := e; rw [e]; rfl)⟩⟩
  ·rw [q2.out.1.1]
   exact ⟨q2.out.1.2.2.reads (by rw [← q2.out.1.1]; have := q2.out.1.2.1; omega), fun n c e => by simp at e⟩
  ·simp only [Value.ownBlock, Option.map_some, Option.some.injEq] at hk
   subst hk
   exact ⟨q2.out.1.2.2.1, hgb⟩
theorem rdel_own {W : World} {base cb fn : Nat} {v : Value} {l : List Rol} {del : Rol → Bool} (h : OwnK rolE base W v l) (hl : l.length ≤ 10000) (hEn : ∀ (zs : Array Value) (w : World), (callFunc fn zs).run Tryz.prog w = .ok (.enter fn zs) w) (hF : ∀ (y : Rol) (w : World), Keeps (fun q => v.ownBlock = some q) W w → Calls Tryz.prog fn #[rolV2 y, .pointer (some ⟨cb, 0, none⟩)] w fun e w' => e = .returned (.bool (del y)) ∧ Hid (Keeps (fun _ => False) w w')) :
 Calls Tryz.prog 73 #[v, .func (.func fn) #[] #[.pointer (some ⟨cb, 0, none⟩)]] W fun e W' => ∃ v', e = .returned v' ∧ Hid (RdX rolE W' v' (l.filter (fun y => !del y)) (fun k => base ≤ k) ∧ Keeps (fun q => v.ownBlock = some q) W W') := by
 rcases h.form with ⟨rfl, rfl⟩ | ⟨g, cap, cur, rfl, hgb, hh, hle, hmx, hrest⟩
 ·exact (rdel_none W cb fn).mono fun e W' ⟨q1, q2⟩ => ⟨_, q1, by rw [← q2]; exact rdX_nil rolE _ _, by rw [← q2]; exact Keeps.refl _ _⟩
 ·have HO : HoK rolE W g 0 l := by
   refine ⟨lt_of_heap hh, fun j x hj i u hi => ⟨?_, Lib.frozen_of_heap hh _⟩⟩
   rw [Nat.zero_add]
   exact OwnK.cell (cap := cap) hh hrest.2 j x hj i u hi
  refine (rdel_spec (cb := cb) (fn := fn) (del := del) HO hle hl hEn (fun y w hk => hF y w (hk.mono (fun q _ e => by have e : q = g := e; rw [e]; rfl)))).mono fun e W' ⟨i, q1, q2⟩ => ⟨_, q1, ⟨⟨?_, fun k hk => ?_⟩, q2.out.2.mono (fun q _ e => by have e : q = g := e; rw [e]; rfl)⟩⟩
  ·rw [q2.out.1.1]
   exact ⟨q2.out.1.2.2.reads (by rw [← q2.out.1.1]; have := q2.out.1.2.1; omega), fun n c e => by simp at e⟩
  ·simp only [Value.ownBlock, Option.map_some, Option.some.injEq] at hk
   subst hk
   exact ⟨q2.out.1.2.2.1, hgb⟩
end Go.Proofs.YtckikkkdabpjkaaGreat
