/-
 The library's Clone and Compact at statements.
-/
import Derived.Test.YtckikkkdabpjkaaGreatKitSq
import Derived.Test.YtckikkkdabpjkaaGreatMG
import Derived.Test.YtckikkkdabpjkaaGreatCmpPlain
import Derived.Deep.LoopGhost
import Derived.BigQuiet
import Derived.Deep.QuietTactic
import Derived.WalkSpells
set_option linter.unusedVariables false
set_option linter.unusedSimpArgs false
set_option linter.unnecessarySimpa false
namespace Go.Proofs.YtckikkkdabpjkaaGreat
open Go.ChangeShapes Go.WideShapes Go.ChangeAt Go.RowKit Go.Deep
set_option maxRecDepth 100000
set_option maxHeartbeats 6400000
theorem cloneM_spec {W : World} {v : Value} {l : List Stm} (h : SrcK stmE W v l) (hl : l.length ≤ 10000) :
 Calls Tryz.prog 58 #[v] W fun e W' => ∃ v', e = .returned v' ∧ Hid (KF W W' ∧ OwnK stmE W.heap.size W' v' l) := by
 obtain ⟨⟨ao, cap, rfl, hle, hr⟩, hnil⟩ := id h
 have HS := Lib.hid h
 cases ao with
 | none =>
  have hcap := hnil _ _ rfl
  subst hcap
  obtain rfl : l = [] := List.eq_nil_of_length_eq_zero (by omega)
  have hqn : ∀ (w : World), (binOp .eql 22 (.slice none 0 0) (.slice none 0 0)).run Tryz.prog w = .ok (.bool true) w := fun w => Lib.run_eql_slice_nil w _ 38 none 0 0 0 0 Tryz.underlying22
  clear hr hnil h HS hle
  go_enter Tryz.func58, Tryz.ntmps58
  go_wp2_with fail
  go_ret
  exact ⟨_, rfl, Keeps.refl _ _, ownK_nil stmE _ _⟩
 | some ad =>
  obtain ⟨nl, hnl⟩ : ∃ nl, l.length = nl := ⟨_, rfl⟩
  rw [hnl] at hle hl HS ⊢
  have HN := Lib.hid hnl
  have hqn : ∀ (w : World) (n c : Nat), (binOp .eql 22 (.slice (some ad) n c) (.slice none 0 0)).run Tryz.prog w = .ok (.bool false) w := fun w n c => Lib.run_eql_slice_nil w _ 38 (some ad) n c 0 0 Tryz.underlying22
  clear hr hnil h hnl
  go_enter Tryz.func58, Tryz.ntmps58
  go_wp2_with (at_builtin; refine app_k (E := stmE) rfl _ _ rfl W.heap.size _ [] rfl (ownK_lit stmE (Nat.le_refl _)) _ l rfl (HS.out.keeps ((Keeps.refl _ _).alloc _)) (by have := HN.out; simp <;> omega) (by simp <;> omega) ?_)
  intro rv w4 hro hk4
  (try rw [List.nil_append] at hro)
  have HE : Hid (KF W w4 ∧ OwnK stmE W.heap.size w4 rv l) := ⟨((Keeps.refl (fun _ => False) W).alloc _).trans_new hk4 (fun q hq e => by simp [Value.ownBlock] at e; omega), hro⟩
  clear hro hk4 HS
  go_wp2_with fail
  go_ret
  exact ⟨_, rfl, HE⟩
theorem compM_none (W : World) : Calls Tryz.prog 177 #[.slice none 0 0] W fun e W' => e = .returned (.slice none 0 0) ∧ W = W' := by
 go_enter Tryz.func177, Tryz.ntmps177
 go_wp2_with fail
 go_ret
 exact ⟨rfl, rfl⟩
theorem compM_spec {W : World} {g cap M : Nat} {l : List Stm} (h : HoS stmE W g M l) (hle : l.length ≤ cap) (hl : l.length ≤ 10000) (hs : l.Pairwise (fun x y => ¬ stmLt y x)) :
 Calls Tryz.prog 177 #[.slice (some ⟨g, 0, none⟩) l.length cap] W fun e W' => ∃ k : Nat, e = .returned (.slice (some ⟨g, 0, none⟩) k cap) ∧ Hid (Keeps (fun q => q = g) W W' ∧ HoS stmE W' g M (sortO stmLt l) ∧ k = (sortO stmLt l).length ∧ k ≤ cap) := by
 have HH := Lib.hid h
 have HSO := Lib.hid hs
 obtain ⟨nl, hnl⟩ : ∃ nl, l.length = nl := ⟨_, rfl⟩
 rw [hnl] at hle hl ⊢
 have HN := Lib.hid hnl
 have HD : Hid (∀ (w : World) (cur : List Stm) (k : Nat), HoS stmE w g M cur → k ≤ cur.length → k ≤ cap → cur.take k = sortO stmLt l → HoS stmE w g M (sortO stmLt l) ∧ k = (sortO stmLt l).length ∧ k ≤ cap) := fun w cur k hc hk hkc e => by
  have hlt : (cur.take k).length = k := by rw [List.length_take]; omega
  have q := hc.take k
  rw [e] at q hlt
  exact ⟨q, hlt.symm, hkc⟩
 clear h hs hnl
 by_cases h2 : nl < 2
 ·have h2I : (nl : Int) < 2 := by omega
  have HE : Hid (Keeps (fun q => q = g) W W ∧ HoS stmE W g M (sortO stmLt l) ∧ nl = (sortO stmLt l).length ∧ nl ≤ cap) := by
   refine ⟨Keeps.refl _ _, HD.out W l nl HH.out (by have := HN.out; omega) hle ?_⟩
   rw [List.take_of_length_le (by have := HN.out; omega)]
   refine rise_all stmO (m := 2) ?_ (by have := HN.out; omega)
   have hn := HN.out
   match l, hn with
   | [], _ => simp
   | [a], _ => simp
   | a :: b :: r, hn => simp at hn; omega
  clear HD HH HSO
  go_enter Tryz.func177, Tryz.ntmps177
  go_wp2_with fail
  go_ret
  exact ⟨_, rfl, HE⟩
 ·have h2I : ¬ (nl : Int) < 2 := by omega
  go_enter Tryz.func177, Tryz.ntmps177
  go_wp2_with fail
  go_loopg [3] (nl - 1) (fun gg t wx => ∃ i nq : Nat, i + 1 ≤ nl ∧ gg = nl - (i + 1) ∧ t = .int .i64 ((i : Int) + 1) ∧ wx = W.drewN nq ∧ Hid ((l.take (i + 1)).Pairwise stmLt))
  case atStart => exact ⟨0, 0, by omega, by omega, rfl, rfl, by show List.Pairwise _ _; match l with | [] => simp | a :: r => simp⟩
  case round =>
   obtain ⟨i, nq0, hi, rfl, rfl, rfl, HI⟩ := hrel
   have hw0 : IntKind.i64.wrap ((i : Int) + 1 + 1) = ((i + 1 : Nat) : Int) + 1 := IntWalk.i64_in _ (by omega)
   have hw1 : IntKind.i64.wrap ((i : Int) + 1 - 1) = (i : Int) := by rw [Int.add_sub_cancel]; exact IntWalk.i64_in _ (by omega)
   have hw2 : IntKind.i64.wrap (i : Int) = (i : Int) := IntWalk.i64_in _ (by omega)
   by_cases hlt : i + 1 < nl
   ·have hltI : (i : Int) + 1 < (nl : Int) := by omega
    obtain ⟨x, hx⟩ : ∃ x, l[i + 1]? = some x := ⟨_, List.getElem?_eq_getElem (by rw [HN.out]; exact hlt)⟩
    obtain ⟨y, hy⟩ : ∃ y, l[i]? = some y := ⟨_, List.getElem?_eq_getElem (by rw [HN.out]; omega)⟩
    have hic1 : i + 1 < cap := by omega
    have hic2 : i < cap := by omega
    have hcx := fun c u hu => (HH.out.1.2 (i + 1) x hx c u hu).1
    have hcy := fun c u hu => (HH.out.1.2 i y hy c u hu).1
    have HX := Lib.hid hx
    have HY := Lib.hid hy
    clear hx hy
    have HQ := stm_eql x y
    obtain ⟨⟨xh1, xh2⟩, xk, xo, ⟨xa1, xa2⟩, ⟨xb1, xb2⟩, xi⟩ := x
    obtain ⟨⟨yh1, yh2⟩, yk, yo, ⟨ya1, ya2⟩, ⟨yb1, yb2⟩, yi⟩ := y
    have p0 : W.cell? ⟨g, (i + 1) * 9, none⟩ = some (.int .i64 xk) := by
     have q := hcx 0 _ rfl
     rw [Nat.zero_add] at q
     exact q
    have q0 : W.cell? ⟨g, i * 9, none⟩ = some (.int .i64 yk) := by
     have q := hcy 0 _ rfl
     rw [Nat.zero_add] at q
     exact q
    have p1 : W.cell? ⟨g, (i + 1) * 9 + 1, none⟩ = some (.string ⟨xh1.toArray⟩) := by
     have q := hcx 1 _ rfl
     rw [Nat.zero_add] at q
     exact q
    have q1 : W.cell? ⟨g, i * 9 + 1, none⟩ = some (.string ⟨yh1.toArray⟩) := by
     have q := hcy 1 _ rfl
     rw [Nat.zero_add] at q
     exact q
    have p2 : W.cell? ⟨g, (i + 1) * 9 + 2, none⟩ = some (.string ⟨xh2.toArray⟩) := by
     have q := hcx 2 _ rfl
     rw [Nat.zero_add] at q
     exact q
    have q2 : W.cell? ⟨g, i * 9 + 2, none⟩ = some (.string ⟨yh2.toArray⟩) := by
     have q := hcy 2 _ rfl
     rw [Nat.zero_add] at q
     exact q
    have p3 : W.cell? ⟨g, (i + 1) * 9 + 3, none⟩ = some (.string ⟨xo.toArray⟩) := by
     have q := hcx 3 _ rfl
     rw [Nat.zero_add] at q
     exact q
    have q3 : W.cell? ⟨g, i * 9 + 3, none⟩ = some (.string ⟨yo.toArray⟩) := by
     have q := hcy 3 _ rfl
     rw [Nat.zero_add] at q
     exact q
    have p4 : W.cell? ⟨g, (i + 1) * 9 + 4, none⟩ = some (.string ⟨xa1.toArray⟩) := by
     have q := hcx 4 _ rfl
     rw [Nat.zero_add] at q
     exact q
    have q4 : W.cell? ⟨g, i * 9 + 4, none⟩ = some (.string ⟨ya1.toArray⟩) := by
     have q := hcy 4 _ rfl
     rw [Nat.zero_add] at q
     exact q
    have p5 : W.cell? ⟨g, (i + 1) * 9 + 5, none⟩ = some (.string ⟨xa2.toArray⟩) := by
     have q := hcx 5 _ rfl
     rw [Nat.zero_add] at q
     exact q
    have q5 : W.cell? ⟨g, i * 9 + 5, none⟩ = some (.string ⟨ya2.toArray⟩) := by
     have q := hcy 5 _ rfl
     rw [Nat.zero_add] at q
     exact q
    have p6 : W.cell? ⟨g, (i + 1) * 9 + 6, none⟩ = some (.string ⟨xb1.toArray⟩) := by
     have q := hcx 6 _ rfl
     rw [Nat.zero_add] at q
     exact q
    have q6 : W.cell? ⟨g, i * 9 + 6, none⟩ = some (.string ⟨yb1.toArray⟩) := by
     have q := hcy 6 _ rfl
     rw [Nat.zero_add] at q
     exact q
    have p7 : W.cell? ⟨g, (i + 1) * 9 + 7, none⟩ = some (.string ⟨xb2.toArray⟩) := by
     have q := hcx 7 _ rfl
     rw [Nat.zero_add] at q
     exact q
    have q7 : W.cell? ⟨g, i * 9 + 7, none⟩ = some (.string ⟨yb2.toArray⟩) := by
     have q := hcy 7 _ rfl
     rw [Nat.zero_add] at q
     exact q
    have p8 : W.cell? ⟨g, (i + 1) * 9 + 8, none⟩ = some (.string ⟨xi.toArray⟩) := by
     have q := hcx 8 _ rfl
     rw [Nat.zero_add] at q
     exact q
    have q8 : W.cell? ⟨g, i * 9 + 8, none⟩ = some (.string ⟨yi.toArray⟩) := by
     have q := hcy 8 _ rfl
     rw [Nat.zero_add] at q
     exact q
    have HQ : ∀ w, (binOp .eql 38 (.agg #[.int .i64 xk, .string ⟨xh1.toArray⟩, .string ⟨xh2.toArray⟩, .string ⟨xo.toArray⟩, .string ⟨xa1.toArray⟩, .string ⟨xa2.toArray⟩, .string ⟨xb1.toArray⟩, .string ⟨xb2.toArray⟩, .string ⟨xi.toArray⟩]) (.agg #[.int .i64 yk, .string ⟨yh1.toArray⟩, .string ⟨yh2.toArray⟩, .string ⟨yo.toArray⟩, .string ⟨ya1.toArray⟩, .string ⟨ya2.toArray⟩, .string ⟨yb1.toArray⟩, .string ⟨yb2.toArray⟩, .string ⟨yi.toArray⟩])).run Tryz.prog w = .ok (.bool (decide (((xh1, xh2), xk, xo, (xa1, xa2), (xb1, xb2), xi) = ((yh1, yh2), yk, yo, (ya1, ya2), (yb1, yb2), yi)))) w := HQ
    clear hcx hcy
    by_cases e : ((xh1, xh2), xk, xo, (xa1, xa2), (xb1, xb2), xi) = ((yh1, yh2), yk, yo, (ya1, ya2), (yb1, yb2), yi)
    ·rw [decide_eq_true e] at HQ
     have HCI : Hid (CI stmLt l (i + 2) (i + 1) l) := ci_start stmO HI.out HY.out (by rw [HX.out, e])
     clear e HI
     go_wp2_with fail
     go_quiet (fail)
     go_upto_region 9 with fail
     clear HQ p0 q0 p1 q1 p2 q2 p3 q3 p4 q4 p5 q5 p6 q6 p7 q7 p8 q8 HX HY hw0 hw1 hw2
     have HKW : Hid (HoS stmE (W.drewN (nq0 + nq)) g M l ∧ Keeps (fun q => q = g) W (W.drewN (nq0 + nq))) := ⟨HH.out.keeps ((Keeps.refl (fun _ => False) _).drewN (nq0 + nq)) (fun x => x), (Keeps.refl _ _).drewN _⟩
     generalize W.drewN (nq0 + nq) = w0 at *
     obtain ⟨ns, hns⟩ : ∃ ns, nl - (i + 1) = ns := ⟨_, rfl⟩
     obtain ⟨cs, hcs⟩ : ∃ cs, cap - (i + 1) = cs := ⟨_, rfl⟩
     rw [hns, hcs]
     have HNS : Hid (nl = i + 1 + ns ∧ cap = i + 1 + cs) := ⟨by omega, by omega⟩
     have hnsl : ns ≤ 10000 := by omega
     have hncs : ns ≤ cs := by omega
     have hnp : 0 < ns := by omega
     clear hns hcs
     go_loopg [3, 5] (nl - (i + 2)) (fun gg t3 t5 wx => ∃ (c k : Nat) (cur : List Stm), i + 2 + c ≤ nl ∧ gg = nl - (i + 2 + c) ∧ t3 = .int .i64 (k : Int) ∧ t5 = .int .i64 ((c : Int) + 1) ∧ Hid (CI stmLt l (i + 2 + c) k cur ∧ HoS stmE wx g M cur ∧ Keeps (fun q => q = g) W wx))
     case atStart => exact ⟨0, i + 1, l, by omega, by omega, by first | rfl | go_num, by first | rfl | go_num, HCI.out, HKW.out.1, HKW.out.2⟩
     case round =>
      obtain ⟨c, k, cur, hc, rfl, rfl, rfl, HI⟩ := hrel
      clear HKW HCI
      have hkm := HI.out.1.km
      have hll := HI.out.1.len
      have hv0 : IntKind.i64.wrap ((c : Int) + 1 + 1) = ((c + 1 : Nat) : Int) + 1 := IntWalk.i64_in _ (by omega)
      have hv1 : IntKind.i64.wrap ((c : Int) + 1 - 1) = (c : Int) := by rw [Int.add_sub_cancel]; exact IntWalk.i64_in _ (by omega)
      have hv2 : IntKind.i64.wrap (c : Int) = (c : Int) := IntWalk.i64_in _ (by omega)
      have hv3 : IntKind.i64.wrap ((k : Int) + 1) = ((k + 1 : Nat) : Int) := IntWalk.i64_in _ (by omega)
      by_cases hlt2 : c + 1 < ns
      ·have hltI : (c : Int) + 1 < (ns : Int) := by omega
       have hm : i + 2 + c < nl := by have := HNS.out; omega
       obtain ⟨x, hx⟩ : ∃ x, l[i + 2 + c]? = some x := ⟨_, List.getElem?_eq_getElem (by rw [HN.out]; exact hm)⟩
       obtain ⟨y, hy⟩ : ∃ y, l[i + 1 + c]? = some y := ⟨_, List.getElem?_eq_getElem (by rw [HN.out]; omega)⟩
       obtain ⟨z, hz⟩ : ∃ z, cur[k]? = some z := ⟨_, List.getElem?_eq_getElem (by rw [hll, HN.out]; omega)⟩
       have hx2 : cur[i + 2 + c]? = some x := by rw [HI.out.1.rest _ (by omega)]; exact hx
       have hy2 : cur[i + 1 + c]? = some y := by rw [HI.out.1.rest _ (by omega)]; exact hy
       have e1 : i + 2 + c = (i + 1 + c) + 1 := by omega
       have hcx := fun q u hu => (HI.out.2.1.1.2 (i + 2 + c) x hx2 q u hu).1
       have hcy := fun q u hu => (HI.out.2.1.1.2 (i + 1 + c) y hy2 q u hu).1
       have hcz := fun q u hu => HI.out.2.1.1.2 k z hz q u hu
       have ex : 0 + (i + 2 + c) * stmE.k = (i + 1) * 9 + (c + 1) * 9 := by show 0 + (i + 2 + c) * 9 = _; omega
       have ey : 0 + (i + 1 + c) * stmE.k = (i + 1) * 9 + c * 9 := by show 0 + (i + 1 + c) * 9 = _; omega
       have ez : 0 + k * stmE.k = k * 9 := by show 0 + k * 9 = _; omega
       rw [ex] at hcx
       rw [ey] at hcy
       rw [ez] at hcz
       have hkc : k < cap := by omega
       have hkn : k < nl := by omega
       have hcc1 : c + 1 < cs := by omega
       have hcc2 : c < cs := by omega
       have hcc3 : c < ns := by omega
       have HX := Lib.hid hx
       have HY := Lib.hid hy
       have HCS : Hid (x = y → CI stmLt l (i + 2 + (c + 1)) k cur) := fun e => by
        subst e
        have q := HI.out.1
        rw [show i + 2 + c = (i + 1 + c) + 1 by omega] at q hx
        have r := q.same hy hx
        rw [show i + 2 + (c + 1) = (i + 1 + c) + 2 by omega]
        exact r
       have HCN : Hid (x ≠ y → CI stmLt l (i + 2 + (c + 1)) (k + 1) (cur.set k x)) := fun e => by
        have q := HI.out.1
        rw [show i + 2 + c = (i + 1 + c) + 1 by omega] at q hx
        have r := q.next stmO HSO.out hy hx e
        rw [show i + 2 + (c + 1) = (i + 1 + c) + 2 by omega]
        exact r
       have HPW : Hid (HoS stmE (wr.setCells g (k * 9) (stmEnc x)) g M (cur.set k x) ∧ Keeps (fun q => q = g) W (wr.setCells g (k * 9) (stmEnc x))) := by
        have q := HI.out.2.1.put (n := k) (by rw [hll, HN.out]; exact hkn) x
        rw [ez] at q
        exact ⟨q.1, HI.out.2.2.trans q.2⟩
       clear hx hy hx2 hy2 e1 ex ey ez hz hll hkm
       have HQ := stm_neq x y
       obtain ⟨⟨xh1, xh2⟩, xk, xo, ⟨xa1, xa2⟩, ⟨xb1, xb2⟩, xi⟩ := x
       obtain ⟨⟨yh1, yh2⟩, yk, yo, ⟨ya1, ya2⟩, ⟨yb1, yb2⟩, yi⟩ := y
       obtain ⟨⟨zh1, zh2⟩, zk, zo, ⟨za1, za2⟩, ⟨zb1, zb2⟩, zi⟩ := z
       have HQ : ∀ w, (binOp .neq 38 (.agg #[.int .i64 xk, .string ⟨xh1.toArray⟩, .string ⟨xh2.toArray⟩, .string ⟨xo.toArray⟩, .string ⟨xa1.toArray⟩, .string ⟨xa2.toArray⟩, .string ⟨xb1.toArray⟩, .string ⟨xb2.toArray⟩, .string ⟨xi.toArray⟩]) (.agg #[.int .i64 yk, .string ⟨yh1.toArray⟩, .string ⟨yh2.toArray⟩, .string ⟨yo.toArray⟩, .string ⟨ya1.toArray⟩, .string ⟨ya2.toArray⟩, .string ⟨yb1.toArray⟩, .string ⟨yb2.toArray⟩, .string ⟨yi.toArray⟩])).run Tryz.prog w = .ok (.bool (!decide (((xh1, xh2), xk, xo, (xa1, xa2), (xb1, xb2), xi) = ((yh1, yh2), yk, yo, (ya1, ya2), (yb1, yb2), yi)))) w := HQ
       have p0 : wr.cell? ⟨g, (i + 1) * 9 + (c + 1) * 9, none⟩ = some (.int .i64 xk) := hcx 0 _ rfl
       have q0 : wr.cell? ⟨g, (i + 1) * 9 + c * 9, none⟩ = some (.int .i64 yk) := hcy 0 _ rfl
       obtain ⟨r0, f0⟩ : wr.cell? ⟨g, k * 9, none⟩ = some (.int .i64 zk) ∧ wr.frozen? ⟨g, k * 9, none⟩ = false := hcz 0 _ rfl
       have p1 : wr.cell? ⟨g, (i + 1) * 9 + (c + 1) * 9 + 1, none⟩ = some (.string ⟨xh1.toArray⟩) := hcx 1 _ rfl
       have q1 : wr.cell? ⟨g, (i + 1) * 9 + c * 9 + 1, none⟩ = some (.string ⟨yh1.toArray⟩) := hcy 1 _ rfl
       obtain ⟨r1, f1⟩ : wr.cell? ⟨g, k * 9 + 1, none⟩ = some (.string ⟨zh1.toArray⟩) ∧ wr.frozen? ⟨g, k * 9 + 1, none⟩ = false := hcz 1 _ rfl
       have p2 : wr.cell? ⟨g, (i + 1) * 9 + (c + 1) * 9 + 2, none⟩ = some (.string ⟨xh2.toArray⟩) := hcx 2 _ rfl
       have q2 : wr.cell? ⟨g, (i + 1) * 9 + c * 9 + 2, none⟩ = some (.string ⟨yh2.toArray⟩) := hcy 2 _ rfl
       obtain ⟨r2, f2⟩ : wr.cell? ⟨g, k * 9 + 2, none⟩ = some (.string ⟨zh2.toArray⟩) ∧ wr.frozen? ⟨g, k * 9 + 2, none⟩ = false := hcz 2 _ rfl
       have p3 : wr.cell? ⟨g, (i + 1) * 9 + (c + 1) * 9 + 3, none⟩ = some (.string ⟨xo.toArray⟩) := hcx 3 _ rfl
       have q3 : wr.cell? ⟨g, (i + 1) * 9 + c * 9 + 3, none⟩ = some (.string ⟨yo.toArray⟩) := hcy 3 _ rfl
       obtain ⟨r3, f3⟩ : wr.cell? ⟨g, k * 9 + 3, none⟩ = some (.string ⟨zo.toArray⟩) ∧ wr.frozen? ⟨g, k * 9 + 3, none⟩ = false := hcz 3 _ rfl
       have p4 : wr.cell? ⟨g, (i + 1) * 9 + (c + 1) * 9 + 4, none⟩ = some (.string ⟨xa1.toArray⟩) := hcx 4 _ rfl
       have q4 : wr.cell? ⟨g, (i + 1) * 9 + c * 9 + 4, none⟩ = some (.string ⟨ya1.toArray⟩) := hcy 4 _ rfl
       obtain ⟨r4, f4⟩ : wr.cell? ⟨g, k * 9 + 4, none⟩ = some (.string ⟨za1.toArray⟩) ∧ wr.frozen? ⟨g, k * 9 + 4, none⟩ = false := hcz 4 _ rfl
       have p5 : wr.cell? ⟨g, (i + 1) * 9 + (c + 1) * 9 + 5, none⟩ = some (.string ⟨xa2.toArray⟩) := hcx 5 _ rfl
       have q5 : wr.cell? ⟨g, (i + 1) * 9 + c * 9 + 5, none⟩ = some (.string ⟨ya2.toArray⟩) := hcy 5 _ rfl
       obtain ⟨r5, f5⟩ : wr.cell? ⟨g, k * 9 + 5, none⟩ = some (.string ⟨za2.toArray⟩) ∧ wr.frozen? ⟨g, k * 9 + 5, none⟩ = false := hcz 5 _ rfl
       have p6 : wr.cell? ⟨g, (i + 1) * 9 + (c + 1) * 9 + 6, none⟩ = some (.string ⟨xb1.toArray⟩) := hcx 6 _ rfl
       have q6 : wr.cell? ⟨g, (i + 1) * 9 + c * 9 + 6, none⟩ = some (.string ⟨yb1.toArray⟩) := hcy 6 _ rfl
       obtain ⟨r6, f6⟩ : wr.cell? ⟨g, k * 9 + 6, none⟩ = some (.string ⟨zb1.toArray⟩) ∧ wr.frozen? ⟨g, k * 9 + 6, none⟩ = false := hcz 6 _ rfl
       have p7 : wr.cell? ⟨g, (i + 1) * 9 + (c + 1) * 9 + 7, none⟩ = some (.string ⟨xb2.toArray⟩) := hcx 7 _ rfl
       have q7 : wr.cell? ⟨g, (i + 1) * 9 + c * 9 + 7, none⟩ = some (.string ⟨yb2.toArray⟩) := hcy 7 _ rfl
       obtain ⟨r7, f7⟩ : wr.cell? ⟨g, k * 9 + 7, none⟩ = some (.string ⟨zb2.toArray⟩) ∧ wr.frozen? ⟨g, k * 9 + 7, none⟩ = false := hcz 7 _ rfl
       have p8 : wr.cell? ⟨g, (i + 1) * 9 + (c + 1) * 9 + 8, none⟩ = some (.string ⟨xi.toArray⟩) := hcx 8 _ rfl
       have q8 : wr.cell? ⟨g, (i + 1) * 9 + c * 9 + 8, none⟩ = some (.string ⟨yi.toArray⟩) := hcy 8 _ rfl
       obtain ⟨r8, f8⟩ : wr.cell? ⟨g, k * 9 + 8, none⟩ = some (.string ⟨zi.toArray⟩) ∧ wr.frozen? ⟨g, k * 9 + 8, none⟩ = false := hcz 8 _ rfl
       clear hcx hcy hcz
       by_cases e : ((xh1, xh2), xk, xo, (xa1, xa2), (xb1, xb2), xi) = ((yh1, yh2), yk, yo, (ya1, ya2), (yb1, yb2), yi)
       ·rw [decide_eq_true e] at HQ
        have HN2 : Hid (CI stmLt l (i + 2 + (c + 1)) k cur ∧ HoS stmE wr g M cur ∧ Keeps (fun q => q = g) W wr) := ⟨HCS.out e, HI.out.2⟩
        clear e HCS HCN HPW HI HX HY
        go_wp2_with fail
        go_quiet (fail)
        have HN3 : Hid (CI stmLt l (i + 2 + (c + 1)) k cur ∧ HoS stmE (wr.drewN nq) g M cur ∧ Keeps (fun q => q = g) W (wr.drewN nq)) := ⟨HN2.out.1, HN2.out.2.1.keeps ((Keeps.refl (fun _ => False) _).drewN nq) (fun x => x), HN2.out.2.2.drewN nq⟩
        go_wp2_with fail
        go_roundg (nl - (i + 2 + (c + 1)))
        case measure => omega
        case rel => exact ⟨c + 1, k, cur, by omega, rfl, rfl, by first | rfl | go_num, HN3⟩
       ·rw [decide_eq_false e] at HQ
        have HN2 : Hid (CI stmLt l (i + 2 + (c + 1)) (k + 1) (cur.set k ((xh1, xh2), xk, xo, (xa1, xa2), (xb1, xb2), xi))) := HCN.out e
        clear e HCS HCN HX HY
        go_wp2_with fail
        go_quiet (fail)
        go_upto_region 12 with fail
        have hkd : KF wr (wr.drewN nq) := (Keeps.refl _ _).drewN nq
        have HI3 : Hid (HoS stmE (wr.drewN nq) g M cur ∧ Keeps (fun q => q = g) W (wr.drewN nq)) := ⟨HI.out.2.1.keeps hkd (fun x => x), HI.out.2.2.drewN nq⟩
        have HP3 : Hid (HoS stmE ((wr.drewN nq).setCells g (k * 9) (stmEnc ((xh1, xh2), xk, xo, (xa1, xa2), (xb1, xb2), xi))) g M (cur.set k ((xh1, xh2), xk, xo, (xa1, xa2), (xb1, xb2), xi)) ∧ Keeps (fun q => q = g) W ((wr.drewN nq).setCells g (k * 9) (stmEnc ((xh1, xh2), xk, xo, (xa1, xa2), (xb1, xb2), xi)))) := by
         have q := HI3.out.1.put (n := k) (by rw [HI.out.1.len, HN.out]; exact hkn) ((xh1, xh2), xk, xo, (xa1, xa2), (xb1, xb2), xi)
         rw [show 0 + k * stmE.k = k * 9 by show 0 + k * 9 = _; omega] at q
         exact ⟨q.1, HI3.out.2.trans q.2⟩
        have s0 : (wr.drewN nq).cell? ⟨g, (i + 1) * 9 + (c + 1) * 9, none⟩ = some (.int .i64 xk) := p0
        have t0 : (wr.drewN nq).cell? ⟨g, k * 9, none⟩ = some (.int .i64 zk) := r0
        have v0 : (wr.drewN nq).frozen? ⟨g, k * 9, none⟩ = false := f0
        have s1 : (wr.drewN nq).cell? ⟨g, (i + 1) * 9 + (c + 1) * 9 + 1, none⟩ = some (.string ⟨xh1.toArray⟩) := p1
        have t1 : (wr.drewN nq).cell? ⟨g, k * 9 + 1, none⟩ = some (.string ⟨zh1.toArray⟩) := r1
        have v1 : (wr.drewN nq).frozen? ⟨g, k * 9 + 1, none⟩ = false := f1
        have s2 : (wr.drewN nq).cell? ⟨g, (i + 1) * 9 + (c + 1) * 9 + 2, none⟩ = some (.string ⟨xh2.toArray⟩) := p2
        have t2 : (wr.drewN nq).cell? ⟨g, k * 9 + 2, none⟩ = some (.string ⟨zh2.toArray⟩) := r2
        have v2 : (wr.drewN nq).frozen? ⟨g, k * 9 + 2, none⟩ = false := f2
        have s3 : (wr.drewN nq).cell? ⟨g, (i + 1) * 9 + (c + 1) * 9 + 3, none⟩ = some (.string ⟨xo.toArray⟩) := p3
        have t3 : (wr.drewN nq).cell? ⟨g, k * 9 + 3, none⟩ = some (.string ⟨zo.toArray⟩) := r3
        have v3 : (wr.drewN nq).frozen? ⟨g, k * 9 + 3, none⟩ = false := f3
        have s4 : (wr.drewN nq).cell? ⟨g, (i + 1) * 9 + (c + 1) * 9 + 4, none⟩ = some (.string ⟨xa1.toArray⟩) := p4
        have t4 : (wr.drewN nq).cell? ⟨g, k * 9 + 4, none⟩ = some (.string ⟨za1.toArray⟩) := r4
        have v4 : (wr.drewN nq).frozen? ⟨g, k * 9 + 4, none⟩ = false := f4
        have s5 : (wr.drewN nq).cell? ⟨g, (i + 1) * 9 + (c + 1) * 9 + 5, none⟩ = some (.string ⟨xa2.toArray⟩) := p5
        have t5 : (wr.drewN nq).cell? ⟨g, k * 9 + 5, none⟩ = some (.string ⟨za2.toArray⟩) := r5
        have v5 : (wr.drewN nq).frozen? ⟨g, k * 9 + 5, none⟩ = false := f5
        have s6 : (wr.drewN nq).cell? ⟨g, (i + 1) * 9 + (c + 1) * 9 + 6, none⟩ = some (.string ⟨xb1.toArray⟩) := p6
        have t6 : (wr.drewN nq).cell? ⟨g, k * 9 + 6, none⟩ = some (.string ⟨zb1.toArray⟩) := r6
        have v6 : (wr.drewN nq).frozen? ⟨g, k * 9 + 6, none⟩ = false := f6
        have s7 : (wr.drewN nq).cell? ⟨g, (i + 1) * 9 + (c + 1) * 9 + 7, none⟩ = some (.string ⟨xb2.toArray⟩) := p7
        have t7 : (wr.drewN nq).cell? ⟨g, k * 9 + 7, none⟩ = some (.string ⟨zb2.toArray⟩) := r7
        have v7 : (wr.drewN nq).frozen? ⟨g, k * 9 + 7, none⟩ = false := f7
        have s8 : (wr.drewN nq).cell? ⟨g, (i + 1) * 9 + (c + 1) * 9 + 8, none⟩ = some (.string ⟨xi.toArray⟩) := p8
        have t8 : (wr.drewN nq).cell? ⟨g, k * 9 + 8, none⟩ = some (.string ⟨zi.toArray⟩) := r8
        have v8 : (wr.drewN nq).frozen? ⟨g, k * 9 + 8, none⟩ = false := f8
        clear HPW HI HI3 HQ hkd p0 q0 r0 f0 p1 q1 r1 f1 p2 q2 r2 f2 p3 q3 r3 f3 p4 q4 r4 f4 p5 q5 r5 f5 p6 q6 r6 f6 p7 q7 r7 f7 p8 q8 r8 f8
        generalize wr.drewN nq = w5 at *
        go_wp2_with fail
        go_roundg (nl - (i + 2 + (c + 1)))
        case measure => omega
        case rel => exact ⟨c + 1, k + 1, cur.set k ((xh1, xh2), xk, xo, (xa1, xa2), (xb1, xb2), xi), by omega, rfl, by first | rfl | go_num, by first | rfl | go_num, ⟨HN2.out, HP3.out⟩⟩
      ·have hce : i + 2 + c = nl := by have := HNS.out; omega
       have hltI : ¬ (c : Int) + 1 < (ns : Int) := by omega
       have hkc : k < cap := by omega
       have hkn : k < nl := by omega
       have hkc2 : k ≤ cap := by omega
       have hkc3 : ¬ (cap = k) := by omega
       have hcl : ∀ (ty : TypeId) (c' : Nat), (Builtin.clear_ #[22] ty #[.slice (some ⟨g, k * 9, none⟩) (nl - k) c']).run Tryz.prog wr = .ok (.tuple #[]) (wr.setCells g (k * 9) (stmZero (nl - k))) := fun ty c' => by
        have q := stm_clear HI.out.2.1.1 (n := k) (by rw [hll, HN.out]; exact hkn) ty c'
        rw [hll, HN.out] at q
        exact q
       have HE : Hid (Keeps (fun q => q = g) W (wr.setCells g (k * 9) (stmZero (nl - k))) ∧ HoS stmE (wr.setCells g (k * 9) (stmZero (nl - k))) g M (sortO stmLt l) ∧ k = (sortO stmLt l).length ∧ k ≤ cap) := by
        have q := HI.out.2.1.past k (stmZero (nl - k))
        have hlk : (cur.take k).length = k := by rw [List.length_take]; have := HN.out; omega
        have hd := HI.out.1.done stmO (by rw [HN.out]; omega)
        exact ⟨HI.out.2.2.trans q.2, HD.out _ (cur.take k) k q.1 (by omega) hkc2 (by rw [List.take_take, Nat.min_self]; exact hd)⟩
       clear HI HD HH HSO hv0 hv1 hv2 hv3 hll hkm
       go_wp2_with (simp only [hcl])
       go_ret
       exact ⟨_, rfl, HE⟩
    ·rw [decide_eq_false e] at HQ
     have HN2 : Hid ((l.take (i + 1 + 1)).Pairwise stmLt) := rise_step stmO HSO.out HI.out HY.out HX.out e
     clear e HI
     go_wp2_with fail
     go_quiet (fail)
     go_wp2_with fail
     go_roundg (nl - (i + 1 + 1))
     case measure => omega
     case rel => exact ⟨i + 1, _, by omega, rfl, by first | rfl | go_num, rfl, HN2⟩
   ·obtain rfl : nl = i + 1 := by omega
    have hltI : ¬ (i : Int) + 1 < (i : Int) + 1 := by omega
    have HE : Hid (∀ nq, Keeps (fun q => q = g) W (W.drewN nq) ∧ HoS stmE (W.drewN nq) g M (sortO stmLt l) ∧ (i + 1) = (sortO stmLt l).length ∧ (i + 1) ≤ cap) := fun nq => by
     refine ⟨(Keeps.refl _ _).drewN _, HD.out _ l (i + 1) (HH.out.keeps ((Keeps.refl (fun _ => False) _).drewN nq) (fun x => x)) (by have := HN.out; omega) hle ?_⟩
     rw [List.take_of_length_le (by have := HN.out; omega)]
     exact rise_all stmO HI.out (by have := HN.out; omega)
    clear HD HI HH HSO
    go_wp2_with fail
    go_ret
    exact ⟨_, rfl, HE.out _⟩
end Go.Proofs.YtckikkkdabpjkaaGreat
