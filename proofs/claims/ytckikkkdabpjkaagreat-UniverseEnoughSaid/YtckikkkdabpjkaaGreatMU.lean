/-
 That each of some principals is in each of some roles, as statements; all roles that count: the program's.
-/
import Derived.Test.YtckikkkdabpjkaaGreatKitSq
import Derived.Test.YtckikkkdabpjkaaGreatStmOnly
import Derived.Test.YtckikkkdabpjkaaGreatRelevFol
import Derived.Test.YtckikkkdabpjkaaGreatUniPlain
import Derived.Test.YtckikkkdabpjkaaGreatMC
import Derived.Laws.BitsAllLaws
set_option linter.unusedVariables false
set_option linter.unusedSimpArgs false
set_option linter.unnecessarySimpa false
namespace Go.Proofs.YtckikkkdabpjkaaGreat
open Go.ChangeShapes Go.WideShapes Go.ChangeAt Go.RowKit Go.Deep
theorem own_ne {α : Type} {E : Elt α} {base b : Nat} {W : World} {v : Value} {l : List α} {c : Array Value} {T : TypeId} {f : Nat × Nat} (h : OwnK E base W v l) (hb : W.heap[b]? = some (.cells c T f)) (hT : T ≠ E.T) : v.ownBlock ≠ some b := by
 rcases h.form with ⟨rfl, _⟩ | ⟨g, cap, cur, rfl, _, hh, _⟩
 ·intro e
  cases e
 ·intro e
  simp only [Value.ownBlock, Option.map_some, Option.some.injEq] at e
  subst e
  rw [hh] at hb
  cases hb
  exact hT rfl
theorem map_more {α β : Type} (f : α → β) {l : List α} {i : Nat} {x : α} (hx : l[i]? = some x) : (l.take (i + 1)).map f = (l.take i).map f ++ [f x] := by
 rw [List.take_add_one, hx, List.map_append]
 rfl
theorem flat_most {α β : Type} (f : α → List β) (c : Nat) : ∀ (l : List α), (∀ x ∈ l, (f x).length ≤ c) → (l.flatMap f).length ≤ l.length * c
 | [], _ => by simp
 | x :: l, h => by
  have h1 := h x (List.mem_cons_self ..)
  have h2 := flat_most f c l (fun y hy => h y (List.mem_cons_of_mem _ hy))
  rw [List.flatMap_cons, List.length_append, List.length_cons, Nat.succ_mul]
  omega
/-- Where members stands: so many roles, so many principals of the next. -/
def accM (rs : List Rol) (P : List Str) (i : Nat) (r : Rol) (j : Nat) : List Stm := (rs.take i).flatMap (fun r => P.map (memS r)) ++ (P.take j).map (memS r)
theorem accM_zero (rs : List Rol) (P : List Str) (i : Nat) (r : Rol) : accM rs P i r 0 = uMem (rs.take i) P := by
 unfold accM uMem
 simp
theorem accM_next {rs : List Rol} {P : List Str} {i j : Nat} {r : Rol} {x : Str} (hx : P[j]? = some x) : accM rs P i r (j + 1) = accM rs P i r j ++ [memS r x] := by
 unfold accM
 rw [map_more _ hx, List.append_assoc]
theorem accM_all {rs : List Rol} {P : List Str} {i n : Nat} {r : Rol} (hr : rs[i]? = some r) (hn : P.length = n) : accM rs P i r n = uMem (rs.take (i + 1)) P := by
 unfold accM uMem
 rw [flat_next _ hr, List.take_of_length_le (l := P) (by omega)]
theorem accM_len (rs : List Rol) (P : List Str) (i : Nat) (r : Rol) (j : Nat) : (accM rs P i r j).length ≤ rs.length * P.length + P.length := by
 unfold accM
 have h1 := flat_most (fun r => P.map (memS r)) P.length (rs.take i) (fun x _ => by rw [List.length_map]; exact Nat.le_refl _)
 have h2 : (rs.take i).length * P.length ≤ rs.length * P.length := Nat.mul_le_mul_right _ (by rw [List.length_take]; omega)
 rw [List.length_append, List.length_map, List.length_take]
 omega
/-- Where roles stands. -/
def accR (R : List Rol) (P L : List Str) (i : Nat) (o : Str) (j : Nat) : List Rol := (R ++ (P.take i).flatMap (fun o => L.map (fun n => (o, n)))) ++ (L.take j).map (fun n => (o, n))
theorem accR_zero (R : List Rol) (P L : List Str) (i : Nat) (o : Str) : accR R P L i o 0 = uRows R (P.take i) L := by
 unfold accR uRows
 simp
theorem accR_next {R : List Rol} {P L : List Str} {i j : Nat} {o x : Str} (hx : L[j]? = some x) : accR R P L i o (j + 1) = accR R P L i o j ++ [(o, x)] := by
 unfold accR
 rw [map_more _ hx, ← List.append_assoc]
theorem accR_all {R : List Rol} {P L : List Str} {i n : Nat} {o : Str} (ho : P[i]? = some o) (hn : L.length = n) : accR R P L i o n = uRows R (P.take (i + 1)) L := by
 unfold accR uRows
 rw [flat_next _ ho, List.take_of_length_le (l := L) (by omega), List.append_assoc]
theorem accR_len (R : List Rol) (P L : List Str) (i : Nat) (o : Str) (j : Nat) : (accR R P L i o j).length ≤ R.length + P.length * L.length + L.length := by
 unfold accR
 have h1 := flat_most (fun o => L.map (fun n => ((o, n) : Rol))) L.length (P.take i) (fun x _ => by rw [List.length_map]; exact Nat.le_refl _)
 have h2 : (P.take i).length * L.length ≤ P.length * L.length := Nat.mul_le_mul_right _ (by rw [List.length_take]; omega)
 rw [List.length_append, List.length_append, List.length_map, List.length_take]
 omega
theorem uRows_len (R : List Rol) (P L : List Str) : (uRows R P L).length ≤ R.length + P.length * L.length := by
 unfold uRows
 have h1 := flat_most (fun o => L.map (fun n => ((o, n) : Rol))) L.length P (fun x _ => by rw [List.length_map]; exact Nat.le_refl _)
 rw [List.length_append]
 omega
theorem uMem_len (rs : List Rol) (P : List Str) : (uMem rs P).length ≤ rs.length * P.length := by
 unfold uMem
 exact flat_most _ _ _ (fun x _ => by rw [List.length_map]; exact Nat.le_refl _)
set_option maxRecDepth 100000
set_option maxHeartbeats 6400000
theorem members_spec {W : World} {vr vp : Value} {rs : List Rol} {P : List Str} (hr : RdK rolE W vr rs) (hp : ReadsS W vp P) (h1 : rs.length * P.length + P.length ≤ 90000) (h2 : rs.length ≤ 100000) (h3 : P.length ≤ 100000) :
 Calls Tryz.prog 79 #[vr, vp] W fun e W' => ∃ v', e = .returned v' ∧ Hid (KF W W' ∧ OwnK stmE W.heap.size W' v' (uMem rs P)) := by
 have HV := Lib.hid hr
 have HP := Lib.hid hp
 have HL := Lib.hid h1
 obtain ⟨ao, cap, rfl, hle, _⟩ := id hr
 obtain ⟨po, pc, rfl, hpl, _⟩ := id hp
 obtain ⟨n, hn⟩ : ∃ n, rs.length = n := ⟨_, rfl⟩
 obtain ⟨m, hm⟩ : ∃ m, P.length = m := ⟨_, rfl⟩
 rw [hn] at hle h2 HV ⊢
 rw [hm] at hpl h3 HP ⊢
 have HN := Lib.hid hn
 have HM := Lib.hid hm
 clear hn hm hr hp h1
 go_enter Tryz.func79, Tryz.ntmps79
 have HI0 : Hid (KF W W ∧ OwnK stmE W.heap.size W (.slice none 0 0) (uMem (rs.take 0) P)) := ⟨Keeps.refl _ _, ownK_nil _ _ _⟩
 go_wp2_with fail
 go_loopg [4, 11] n (fun g o t wx => ∃ (i : Nat) (ov : Value), i ≤ n ∧ g = n - i ∧ t = .int .i64 i ∧ ov = o ∧ Hid (KF W wx ∧ OwnK stmE W.heap.size wx ov (uMem (rs.take i) P)))
 case atStart => exact ⟨0, _, Nat.zero_le _, rfl, rfl, rfl, HI0⟩
 case round =>
  clear HI0
  obtain ⟨i, ov, hi, rfl, rfl, rfl, HI⟩ := hrel
  by_cases hlt : i < n
  ·have hiI : (i : Int) < (n : Int) := by omega
   have hwi : IntKind.i64.wrap ((i : Int) + 1) = (i : Int) + 1 := IntWalk.i64_in _ (by omega)
   have hicap : i < cap := by omega
   obtain ⟨y, hy⟩ : ∃ y, rs[i]? = some y := ⟨_, List.getElem?_eq_getElem (by rw [HN.out]; exact hlt)⟩
   obtain ⟨aoz, cpz, ez, hez, hrz⟩ := id (HV.out.keeps HI.out.1)
   obtain ⟨g, off, hao, hg, hcc⟩ := hrz (by rw [HN.out]; omega)
   simp only [Value.slice.injEq] at ez
   obtain ⟨rfl, hzz, rfl⟩ := ez
   subst hao
   have hc := hcc i y hy
   have HY := Lib.hid hy
   obtain ⟨r1, r2⟩ := y
   clear hcc hrz hez hzz hy
   have c0 : wr.cell? ⟨g, off + i * 2, none⟩ = some (.string ⟨r1.toArray⟩) := hc 0 _ rfl
   have c1 : wr.cell? ⟨g, off + i * 2 + 1, none⟩ = some (.string ⟨r2.toArray⟩) := hc 1 _ rfl
   have hka : KF wr (wr.alloc (bR r1 r2)) := (Keeps.refl _ _).alloc _
   have hal := (MapKept.heap_alloc wr (bR r1 r2)).1
   have HJ : Hid (KF W (wr.alloc (bR r1 r2)) ∧ OwnK stmE W.heap.size (wr.alloc (bR r1 r2)) ov (accM rs P i (r1, r2) 0)) := ⟨HI.out.1.trans hka, by rw [accM_zero]; exact HI.out.2.keeps hka (fun _ _ z => z)⟩
   obtain ⟨b, hb⟩ : ∃ b, wr.heap.size = b := ⟨_, rfl⟩
   rw [hb] at hal
   have HB := Lib.hid hal
   go_upto_region 4 with fail
   (try simp only [hb])
   clear hka hal hb hc hg HI c0 c1
   generalize wr.alloc (bR r1 r2) = w6 at *
   go_wp2_with fail
   go_loopg [4, 17] m (fun g o t wx => ∃ (j : Nat) (ov : Value), j ≤ m ∧ g = m - j ∧ t = .int .i64 j ∧ ov = o ∧ Hid ((KF W wx ∧ OwnK stmE W.heap.size wx ov (accM rs P i (r1, r2) j)) ∧ wx.heap[b]? = some (bR r1 r2)))
   case atStart => exact ⟨0, _, Nat.zero_le _, rfl, rfl, rfl, HJ.out, HB.out⟩
   case round =>
    clear HJ HB
    obtain ⟨j, ov, hj, rfl, rfl, rfl, HI⟩ := hrel
    by_cases hlt2 : j < m
    ·have hjI : (j : Int) < (m : Int) := by omega
     have hwj : IntKind.i64.wrap ((j : Int) + 1) = (j : Int) + 1 := IntWalk.i64_in _ (by omega)
     have hjcap : j < pc := by omega
     obtain ⟨x, hx⟩ : ∃ y, P[j]? = some y := ⟨_, List.getElem?_eq_getElem (by rw [HM.out]; exact hlt2)⟩
     obtain ⟨aoz, cpz, ez, hez, hrz⟩ := id (HP.out.keeps HI.out.1.1)
     obtain ⟨pg, poff, hao, hpg, hcc⟩ := hrz (by rw [HM.out]; omega)
     simp only [Value.slice.injEq] at ez
     obtain ⟨rfl, hzz, rfl⟩ := ez
     subst hao
     have d0 : wr.cell? ⟨pg, poff + j, none⟩ = some (.string ⟨x.toArray⟩) := hcc j x hx
     have HX : Hid (accM rs P i (r1, r2) (j + 1) = accM rs P i (r1, r2) j ++ [memS (r1, r2) x]) := accM_next hx
     have hfl := accM_len rs P i (r1, r2) j
     have hll := HL.out
     have hka : KF wr (wr.alloc (.cells #[.int .i64 1, .string ⟨r1.toArray⟩, .string ⟨r2.toArray⟩, .string ⟨x.toArray⟩, .string ⟨#[]⟩, .string ⟨#[]⟩, .string ⟨#[]⟩, .string ⟨#[]⟩, .string ⟨#[]⟩] 38)) := (Keeps.refl _ _).alloc _
     have HJE : Hid ((KF W (wr.alloc (.cells #[.int .i64 1, .string ⟨r1.toArray⟩, .string ⟨r2.toArray⟩, .string ⟨x.toArray⟩, .string ⟨#[]⟩, .string ⟨#[]⟩, .string ⟨#[]⟩, .string ⟨#[]⟩, .string ⟨#[]⟩] 38)) ∧ OwnK stmE W.heap.size (wr.alloc (.cells #[.int .i64 1, .string ⟨r1.toArray⟩, .string ⟨r2.toArray⟩, .string ⟨x.toArray⟩, .string ⟨#[]⟩, .string ⟨#[]⟩, .string ⟨#[]⟩, .string ⟨#[]⟩, .string ⟨#[]⟩] 38)) ov (accM rs P i (r1, r2) j)) ∧ (wr.alloc (.cells #[.int .i64 1, .string ⟨r1.toArray⟩, .string ⟨r2.toArray⟩, .string ⟨x.toArray⟩, .string ⟨#[]⟩, .string ⟨#[]⟩, .string ⟨#[]⟩, .string ⟨#[]⟩, .string ⟨#[]⟩] 38)).heap[b]? = some (bR r1 r2)) := ⟨⟨HI.out.1.1.trans hka, HI.out.1.2.keeps hka (fun _ _ z => z)⟩, (hka.block _ (lt_of_heap HI.out.2) (fun x => x)).trans HI.out.2⟩
     have HSZ := Lib.hid HJE.out.1.1.size
     obtain ⟨p0, f0, p1, f1⟩ := cf2 HI.out.2
     have hbs := lt_of_heap HJE.out.2
     have hbn : ov.ownBlock ≠ some b := own_ne HJE.out.1.2 HJE.out.2 (by show 28 ≠ 38; decide)
     clear hcc hrz hez hzz hx hka HI f0 f1
     go_wp2_with (at_builtin; refine app_k (E := stmE) rfl _ _ rfl W.heap.size ov (accM rs P i (r1, r2) j) rfl HJE.out.1.2 _ [memS (r1, r2) x] rfl (one_srcK (E := stmE) wr (memS (r1, r2) x) #[.int .i64 1, .string ⟨r1.toArray⟩, .string ⟨r2.toArray⟩, .string ⟨x.toArray⟩, .string ⟨#[]⟩, .string ⟨#[]⟩, .string ⟨#[]⟩, .string ⟨#[]⟩, .string ⟨#[]⟩] rfl) (by simp only [List.length_cons, List.length_nil]; omega) HSZ.out ?_)
     intro ov2 w9 ho hk
     have HN2 : Hid ((KF W w9 ∧ OwnK stmE W.heap.size w9 ov2 (accM rs P i (r1, r2) (j + 1))) ∧ w9.heap[b]? = some (bR r1 r2)) := ⟨⟨HJE.out.1.1.trans_new hk (fun q hq e => by have := own_block HJE.out.1.2 q e; omega), by rw [HX.out]; exact ho⟩, (hk.block _ hbs hbn).trans HJE.out.2⟩
     clear HJE HSZ HX ho hk p0 p1 d0 hfl hll hbs hbn
     go_wp2_with fail
     go_roundg (m - (j + 1))
     case measure => omega
     case rel => exact ⟨j + 1, _, by omega, rfl, by go_num, rfl, HN2⟩
    ·obtain rfl : j = m := by omega
     have hjI : ¬ (j : Int) < (j : Int) := by omega
     have HN2 : Hid (KF W wr ∧ OwnK stmE W.heap.size wr ov (uMem (rs.take (i + 1)) P)) := ⟨HI.out.1.1, by rw [← accM_all HY.out HM.out]; exact HI.out.1.2⟩
     clear HI
     go_wp2_with fail
     go_roundg (n - (i + 1))
     case measure => omega
     case rel => exact ⟨i + 1, _, by omega, rfl, by go_num, rfl, HN2⟩
  ·obtain rfl : i = n := by omega
   have hiI : ¬ (i : Int) < (i : Int) := by omega
   have HE : Hid (KF W wr ∧ OwnK stmE W.heap.size wr ov (uMem rs P)) := ⟨HI.out.1, by have := HI.out.2; rw [List.take_of_length_le (by have := HN.out; omega)] at this; exact this⟩
   clear HI
   go_wp2_with fail
   go_ret
   exact ⟨_, rfl, HE⟩
theorem cf10 {W : World} {T : TypeId} {B : Nat} {u0 u1 u2 u3 u4 u5 u6 u7 u8 u9 : Value} (h : W.heap[B]? = some (.cells #[u0, u1, u2, u3, u4, u5, u6, u7, u8, u9] T)) : W.cell? ⟨B, 0, none⟩ = some u0 ∧ W.frozen? ⟨B, 0, none⟩ = false ∧ W.cell? ⟨B, 1, none⟩ = some u1 ∧ W.frozen? ⟨B, 1, none⟩ = false ∧ W.cell? ⟨B, 2, none⟩ = some u2 ∧ W.frozen? ⟨B, 2, none⟩ = false ∧ W.cell? ⟨B, 3, none⟩ = some u3 ∧ W.frozen? ⟨B, 3, none⟩ = false ∧ W.cell? ⟨B, 4, none⟩ = some u4 ∧ W.frozen? ⟨B, 4, none⟩ = false ∧ W.cell? ⟨B, 5, none⟩ = some u5 ∧ W.frozen? ⟨B, 5, none⟩ = false ∧ W.cell? ⟨B, 6, none⟩ = some u6 ∧ W.frozen? ⟨B, 6, none⟩ = false ∧ W.cell? ⟨B, 7, none⟩ = some u7 ∧ W.frozen? ⟨B, 7, none⟩ = false ∧ W.cell? ⟨B, 8, none⟩ = some u8 ∧ W.frozen? ⟨B, 8, none⟩ = false ∧ W.cell? ⟨B, 9, none⟩ = some u9 ∧ W.frozen? ⟨B, 9, none⟩ = false := ⟨by rw [cell_of_heap h]; rfl, Lib.frozen_of_heap h 0, by rw [cell_of_heap h]; rfl, Lib.frozen_of_heap h 1, by rw [cell_of_heap h]; rfl, Lib.frozen_of_heap h 2, by rw [cell_of_heap h]; rfl, Lib.frozen_of_heap h 3, by rw [cell_of_heap h]; rfl, Lib.frozen_of_heap h 4, by rw [cell_of_heap h]; rfl, Lib.frozen_of_heap h 5, by rw [cell_of_heap h]; rfl, Lib.frozen_of_heap h 6, by rw [cell_of_heap h]; rfl, Lib.frozen_of_heap h 7, by rw [cell_of_heap h]; rfl, Lib.frozen_of_heap h 8, by rw [cell_of_heap h]; rfl, Lib.frozen_of_heap h 9⟩
theorem uroles_spec {W : World} {ro lo po fo oo so qo bo ao : Option Addr} {rn rc ln lc pn pc fn fc on oc sn sc qn qc bn bc an ac : Nat} {lk : Bool} {R : List Rol} {Lk P : List Str} (hr : SrcK rolE W (.slice ro rn rc) R) (hl : ReadsS W (.slice lo ln lc) Lk) (hp : ReadsS W (.slice qo qn qc) P) (h1 : R.length + P.length * Lk.length + Lk.length ≤ 9000) (h2 : P.length ≤ 9000) :
 Calls Tryz.prog 74 #[.agg #[.slice ro rn rc, .slice lo ln lc, .slice po pn pc, .slice fo fn fc, .slice oo on oc, .slice so sn sc, .bool lk, .slice qo qn qc, .slice bo bn bc, .slice ao an ac]] W fun e W' => ∃ v', e = .returned v' ∧ Hid (KF W W' ∧ OwnK rolE W.heap.size W' v' (uRoles R P Lk)) := by
 obtain ⟨qo', qc', hqe, hql, _⟩ := id hp
 obtain ⟨lo', lc', hle, hll, _⟩ := id hl
 simp only [Value.slice.injEq] at hqe hle
 obtain ⟨rfl, hqn, rfl⟩ := hqe
 obtain ⟨rfl, hln, rfl⟩ := hle
 rw [← hqn] at hql
 rw [← hln] at hll
 have HQN := Lib.hid hqn.symm
 have HLN := Lib.hid hln.symm
 have HLE : Hid (qn ≤ 9000 ∧ ln ≤ 9000) := ⟨by omega, by omega⟩
 clear hqn hln
 obtain ⟨WA, hWA⟩ : ∃ q, W.alloc (.cells #[.slice ro rn rc, .slice lo ln lc, .slice po pn pc, .slice fo fn fc, .slice oo on oc, .slice so sn sc, .bool lk, .slice qo qn qc, .slice bo bn bc, .slice ao an ac] 54) = q := ⟨_, rfl⟩
 have hal := (MapKept.heap_alloc W (.cells #[.slice ro rn rc, .slice lo ln lc, .slice po pn pc, .slice fo fn fc, .slice oo on oc, .slice so sn sc, .bool lk, .slice qo qn qc, .slice bo bn bc, .slice ao an ac] 54)).1
 have HKWA : Hid (KF W WA) := by rw [← hWA]; exact (Keeps.refl _ _).alloc _
 rw [hWA] at hal
 obtain ⟨ub, hub⟩ : ∃ q, W.heap.size = q := ⟨_, rfl⟩
 have HBub := Lib.hid hub
 rw [hub] at hal
 have HAWA := Lib.hid hal
 clear hal
 have HP := Lib.hid (hp.keeps HKWA.out)
 have HLK := Lib.hid (hl.keeps HKWA.out)
 have HC := Lib.hid (cloneR_spec (hr.keeps HKWA.out) (by omega))
 have HL := Lib.hid h1
 obtain ⟨p0, f0, p1, f1, p2, f2, p3, f3, p4, f4, p5, f5, p6, f6, p7, f7, p8, f8, p9, f9⟩ := cf10 HAWA.out
 clear hr hl hp h1 h2 f0 f1 f2 f3 f4 f5 f6 f7 f8 f9
 go_enter Tryz.func74, Tryz.ntmps74
 go_upto_region 1 with fail
 (try simp only [hWA, hub])
 clear hWA hub
 go_wp2_with fail
 refine HC.out.mono ?_
 rintro e w1 ⟨v1, rfl, h1⟩
 have HU1 := Lib.hid ((h1.out.1.block _ (lt_of_heap HAWA.out) (fun x => x)).trans HAWA.out)
 have HI0 : Hid (KF WA w1 ∧ OwnK rolE WA.heap.size w1 v1 (uRows R (P.take 0) Lk)) := ⟨h1.out.1, by
  have e : uRows R (P.take 0) Lk = R := by unfold uRows; simp
  rw [e]
  exact h1.out.2⟩
 clear HC h1 p0 p1 p2 p3 p4 p5 p6 p7 p8 p9
 obtain ⟨p0, f0, p1, f1, p2, f2, p3, f3, p4, f4, p5, f5, p6, f6, p7, f7, p8, f8, p9, f9⟩ := cf10 HU1.out
 clear f0 f1 f2 f3 f4 f5 f6 f7 f8 f9 HU1
 have hqI := HLE.out.1
 go_wp2_with fail
 clear p0 p1 p2 p3 p4 p5 p6 p7 p8 p9
 go_loopg [3, 15] qn (fun g o t wx => ∃ (i : Nat) (ov : Value), i ≤ qn ∧ g = qn - i ∧ t = .int .i64 i ∧ ov = o ∧ Hid (KF WA wx ∧ OwnK rolE WA.heap.size wx ov (uRows R (P.take i) Lk)))
 case atStart => exact ⟨0, _, Nat.zero_le _, rfl, rfl, rfl, HI0⟩
 case round =>
  clear HI0
  obtain ⟨i, ov, hi, rfl, rfl, rfl, HI⟩ := hrel
  by_cases hlt : i < qn
  ·have hiI : (i : Int) < (qn : Int) := by omega
   have hwi : IntKind.i64.wrap ((i : Int) + 1) = (i : Int) + 1 := IntWalk.i64_in _ (by omega)
   have hicap : i < qc := by omega
   obtain ⟨y, hy⟩ : ∃ y, P[i]? = some y := ⟨_, List.getElem?_eq_getElem (by rw [HQN.out]; exact hlt)⟩
   obtain ⟨aoz, cpz, ez, hez, hrz⟩ := id (HP.out.keeps HI.out.1)
   obtain ⟨g, off, hao, hg, hcc⟩ := hrz (by rw [HQN.out]; omega)
   simp only [Value.slice.injEq] at ez
   obtain ⟨rfl, hzz, rfl⟩ := ez
   subst hao
   have c0 : wr.cell? ⟨g, off + i, none⟩ = some (.string ⟨y.toArray⟩) := hcc i y hy
   have HY := Lib.hid hy
   have HU : Hid (wr.heap[ub]? = some (.cells #[.slice ro rn rc, .slice lo ln lc, .slice po pn pc, .slice fo fn fc, .slice oo on oc, .slice so sn sc, .bool lk, .slice (some ⟨g, off, none⟩) qn qc, .slice bo bn bc, .slice ao an ac] 54)) := (HI.out.1.block _ (lt_of_heap HAWA.out) (fun x => x)).trans HAWA.out
   have HJ : Hid (KF WA wr ∧ OwnK rolE WA.heap.size wr ov (accR R P Lk i y 0)) := ⟨HI.out.1, by rw [accR_zero]; exact HI.out.2⟩
   clear hcc hrz hez hzz hy HI hg
   go_upto_region 5 with fail
   obtain ⟨p0, f0, p1, f1, p2, f2, p3, f3, p4, f4, p5, f5, p6, f6, p7, f7, p8, f8, p9, f9⟩ := cf10 HU.out
   clear f0 f1 f2 f3 f4 f5 f6 f7 f8 f9 HU
   have hlI := HLE.out.2
   go_wp2_with fail
   clear p0 p1 p2 p3 p4 p5 p6 p7 p8 p9 c0
   go_loopg [3, 23] ln (fun g o t wx => ∃ (j : Nat) (ov : Value), j ≤ ln ∧ g = ln - j ∧ t = .int .i64 j ∧ ov = o ∧ Hid (KF WA wx ∧ OwnK rolE WA.heap.size wx ov (accR R P Lk i y j)))
   case atStart => exact ⟨0, _, Nat.zero_le _, rfl, rfl, rfl, HJ⟩
   case round =>
    clear HJ
    obtain ⟨j, ov, hj, rfl, rfl, rfl, HI⟩ := hrel
    by_cases hlt2 : j < ln
    ·have hjI : (j : Int) < (ln : Int) := by omega
     have hwj : IntKind.i64.wrap ((j : Int) + 1) = (j : Int) + 1 := IntWalk.i64_in _ (by omega)
     have hjcap : j < lc := by omega
     obtain ⟨x, hx⟩ : ∃ y, Lk[j]? = some y := ⟨_, List.getElem?_eq_getElem (by rw [HLN.out]; exact hlt2)⟩
     obtain ⟨aoz, cpz, ez, hez, hrz⟩ := id (HLK.out.keeps HI.out.1)
     obtain ⟨lg, loff, hao, hlg, hcc⟩ := hrz (by rw [HLN.out]; omega)
     simp only [Value.slice.injEq] at ez
     obtain ⟨rfl, hzz, rfl⟩ := ez
     subst hao
     have d0 : wr.cell? ⟨lg, loff + j, none⟩ = some (.string ⟨x.toArray⟩) := hcc j x hx
     have HX : Hid (accR R P Lk i y (j + 1) = accR R P Lk i y j ++ [(y, x)]) := accR_next hx
     have hfl := accR_len R P Lk i y j
     have hl4 := HL.out
     have hka : KF wr (wr.alloc (bR y x)) := (Keeps.refl _ _).alloc _
     have HJE : Hid (KF WA (wr.alloc (bR y x)) ∧ OwnK rolE WA.heap.size (wr.alloc (bR y x)) ov (accR R P Lk i y j)) := ⟨HI.out.1.trans hka, HI.out.2.keeps hka (fun _ _ z => z)⟩
     have HSZ : Hid (WA.heap.size ≤ (wr.alloc (bR y x)).heap.size) := HJE.out.1.size
     clear hcc hrz hez hzz hx hka HI hlg
     go_wp2_with (at_builtin; refine app_k (E := rolE) rfl _ _ rfl WA.heap.size ov (accR R P Lk i y j) rfl HJE.out.2 _ [(y, x)] rfl (one_srcK (E := rolE) wr (y, x) #[.string ⟨y.toArray⟩, .string ⟨x.toArray⟩] rfl) (by simp only [List.length_cons, List.length_nil]; omega) HSZ.out ?_)
     intro ov2 w9 ho hk
     have HN2 : Hid (KF WA w9 ∧ OwnK rolE WA.heap.size w9 ov2 (accR R P Lk i y (j + 1))) := ⟨HJE.out.1.trans_new hk (fun q hq e => by have := own_block HJE.out.2 q e; omega), by rw [HX.out]; exact ho⟩
     clear HJE HSZ HX ho hk d0 hfl hl4
     go_wp2_with fail
     go_roundg (ln - (j + 1))
     case measure => omega
     case rel => exact ⟨j + 1, _, by omega, rfl, by go_num, rfl, HN2⟩
    ·obtain rfl : j = ln := by omega
     have hjI : ¬ (j : Int) < (j : Int) := by omega
     have HN2 : Hid (KF WA wr ∧ OwnK rolE WA.heap.size wr ov (uRows R (P.take (i + 1)) Lk)) := ⟨HI.out.1, by rw [← accR_all HY.out HLN.out]; exact HI.out.2⟩
     clear HI
     go_wp2_with fail
     go_roundg (qn - (i + 1))
     case measure => omega
     case rel => exact ⟨i + 1, _, by omega, rfl, by go_num, rfl, HN2⟩
  ·obtain rfl : i = qn := by omega
   have hiI : ¬ (i : Int) < (i : Int) := by omega
   have HS : Hid (OwnK rolE WA.heap.size wr ov (uRows R P Lk)) := by have := HI.out.2; rw [List.take_of_length_le (by have := HQN.out; omega)] at this; exact this
   have HSR := Lib.hid (rsort_own HS.out.src (by have := uRows_len R P Lk; have := HL.out; omega))
   have HK : Hid (KF W wr) := HKWA.out.trans HI.out.1
   clear HS HI
   go_wp2_with fail
   refine HSR.out.mono ?_
   rintro e w2 ⟨v2, rfl, h2⟩
   have HE : Hid (KF W w2 ∧ OwnK rolE W.heap.size w2 v2 (uRoles R P Lk)) := ⟨HK.out.trans h2.out.1, h2.out.2.base HK.out.size⟩
   clear HSR h2 HK
   go_wp2_with fail
   go_ret
   exact ⟨_, rfl, HE⟩
end Go.Proofs.YtckikkkdabpjkaaGreat
/-
 A state by its bits: the program's.
-/
set_option linter.unusedVariables false
set_option linter.unusedSimpArgs false
set_option linter.unnecessarySimpa false
namespace Go.Proofs.YtckikkkdabpjkaaGreat
open Go.ChangeShapes Go.WideShapes Go.ChangeAt Go.RowKit Go.Deep
theorem shr_bit (X v : Nat) (hX : X < 18446744073709551616) : (bits BinOp.and IntKind.u64 ((X : Int) / 2 ^ v) 1 == 1) = X.testBit v := by
 have hle : X / 2 ^ v < 18446744073709551616 := Nat.lt_of_le_of_lt (Nat.div_le_self _ _) hX
 have e1 : ((X : Int) / 2 ^ v) = ((X / 2 ^ v : Nat) : Int) := by simp
 have e2 := u64_and_nat (X / 2 ^ v) 1 hle (by decide)
 rw [e1, show (1 : Int) = ((1 : Nat) : Int) from rfl, e2]
 rw [Nat.testBit, Nat.shiftRight_eq_div_pow, Nat.and_comm 1]
 have h2 : X / 2 ^ v &&& 1 = X / 2 ^ v % 2 := Nat.and_one_is_mod _
 rw [h2]
 rcases Nat.mod_two_eq_zero_or_one (X / 2 ^ v) with e | e <;> rw [e] <;> rfl
set_option maxRecDepth 100000
set_option maxHeartbeats 6400000
theorem ustate_spec {W : World} {ro lo po fo oo so qo bo ao : Option Addr} {rn rc ln lc pn pc fn fc on oc sn sc qn qc bn bc an ac : Nat} {lk : Bool} {base fx bs : List Stm} (ha : SrcK stmE W (.slice ao an ac) base) (hf : SrcK stmE W (.slice fo fn fc) fx) (hb : RdK stmE W (.slice bo bn bc) bs) (h1 : base.length ≤ 1000) (h2 : fx.length ≤ 1000) (h3 : bs.length ≤ 61) (N : Nat) (hN : N < 18446744073709551616) :
 Calls Tryz.prog 33 #[.agg #[.slice ro rn rc, .slice lo ln lc, .slice po pn pc, .slice fo fn fc, .slice oo on oc, .slice so sn sc, .bool lk, .slice qo qn qc, .slice bo bn bc, .slice ao an ac], .int .u64 N] W fun e W' => ∃ v', e = .returned v' ∧ Hid (KF W W' ∧ OwnK stmE W.heap.size W' v' (uState base fx bs N)) := by
 obtain ⟨bo', bc', hbe, hbl, _⟩ := id hb
 simp only [Value.slice.injEq] at hbe
 obtain ⟨rfl, hbn, rfl⟩ := hbe
 rw [← hbn] at hbl h3
 have HBN := Lib.hid hbn.symm
 clear hbn
 obtain ⟨WA, hWA⟩ : ∃ q, W.alloc (.cells #[.slice ro rn rc, .slice lo ln lc, .slice po pn pc, .slice fo fn fc, .slice oo on oc, .slice so sn sc, .bool lk, .slice qo qn qc, .slice bo bn bc, .slice ao an ac] 54) = q := ⟨_, rfl⟩
 have hal := (MapKept.heap_alloc W (.cells #[.slice ro rn rc, .slice lo ln lc, .slice po pn pc, .slice fo fn fc, .slice oo on oc, .slice so sn sc, .bool lk, .slice qo qn qc, .slice bo bn bc, .slice ao an ac] 54)).1
 have HKWA : Hid (KF W WA) := by rw [← hWA]; exact (Keeps.refl _ _).alloc _
 rw [hWA] at hal
 obtain ⟨ub, hub⟩ : ∃ q, W.heap.size = q := ⟨_, rfl⟩
 have HBub := Lib.hid hub
 rw [hub] at hal
 have HAWA := Lib.hid hal
 clear hal
 obtain ⟨WB, hWB⟩ : ∃ q, WA.alloc (.cells #[.slice ao an ac, .slice fo fn fc] 22) = q := ⟨_, rfl⟩
 have hal := (MapKept.heap_alloc WA (.cells #[.slice ao an ac, .slice fo fn fc] 22)).1
 have HKWB : Hid (KF WA WB) := by rw [← hWB]; exact (Keeps.refl _ _).alloc _
 rw [hWB] at hal
 obtain ⟨vb, hvb⟩ : ∃ q, WA.heap.size = q := ⟨_, rfl⟩
 have HBvb := Lib.hid hvb
 rw [hvb] at hal
 have HAWB := Lib.hid hal
 clear hal
 have HKB : Hid (KF W WB) := HKWA.out.trans HKWB.out
 have HV := Lib.hid (hb.keeps HKB.out)
 have c0 : WB.cell? ⟨vb, 0, none⟩ = some (.slice ao an ac) := by rw [cell_of_heap HAWB.out]; rfl
 have c1 : WB.cell? ⟨vb, 1, none⟩ = some (.slice fo fn fc) := by rw [cell_of_heap HAWB.out]; rfl
 have HC := Lib.hid (mconcat_spec (lt_of_heap HAWB.out) c0 c1 (ha.keeps HKB.out) (hf.keeps HKB.out) (by omega) (by omega))
 have HUB := Lib.hid ((HKWB.out.block _ (lt_of_heap HAWA.out) (fun x => x)).trans HAWA.out)
 have HBT : Hid (∀ i, (bits BinOp.and IntKind.u64 ((N : Int) / 2 ^ i) 1 == 1) = N.testBit i) := fun i => shr_bit N i hN
 have HLB : Hid ((base ++ fx).length ≤ 2000) := by show _ ≤ _; rw [List.length_append]; omega
 obtain ⟨p0, f0, p1, f1, p2, f2, p3, f3, p4, f4, p5, f5, p6, f6, p7, f7, p8, f8, p9, f9⟩ := cf10 HAWA.out
 clear ha hf hb c0 c1 f0 f1 f2 f3 f4 f5 f6 f7 f8 f9 h1 h2
 go_enter Tryz.func33, Tryz.ntmps33
 go_upto_region 1 with fail
 (try simp only [hWA, hub])
 clear hWA hub
 go_wp2_with fail
 (try simp only [hWB, hvb])
 clear hWB hvb p0 p1 p2 p3 p4 p5 p6 p7 p8 p9
 refine HC.out.mono ?_
 rintro e w1 ⟨v1, rfl, hv1⟩
 have HU1 := Lib.hid ((hv1.out.2.block _ (lt_of_heap HUB.out) (fun x => x)).trans HUB.out)
 have HI0 : Hid (KF WB w1 ∧ OwnK stmE WB.heap.size w1 v1 (base ++ fx ++ pickI N bs 0)) := ⟨hv1.out.2, by rw [pick_zero, List.append_nil]; exact hv1.out.1⟩
 clear HC hv1
 obtain ⟨p0, f0, p1, f1, p2, f2, p3, f3, p4, f4, p5, f5, p6, f6, p7, f7, p8, f8, p9, f9⟩ := cf10 HU1.out
 clear f0 f1 f2 f3 f4 f5 f6 f7 f8 f9 HU1
 go_wp2_with fail
 clear p0 p1 p2 p3 p4 p5 p6 p7 p8 p9
 go_loopg [5, 18] bn (fun g o t wx => ∃ (i : Nat) (ov : Value), i ≤ bn ∧ g = bn - i ∧ t = .int .i64 i ∧ ov = o ∧ Hid (KF WB wx ∧ OwnK stmE WB.heap.size wx ov (base ++ fx ++ pickI N bs i)))
 case atStart => exact ⟨0, _, Nat.zero_le _, rfl, rfl, rfl, HI0⟩
 case round =>
  clear HI0
  obtain ⟨i, ov, hi, rfl, rfl, rfl, HI⟩ := hrel
  by_cases hlt : i < bn
  ·have hiI : (i : Int) < (bn : Int) := by omega
   have hwi : IntKind.i64.wrap ((i : Int) + 1) = (i : Int) + 1 := IntWalk.i64_in _ (by omega)
   have hmi : min i 64 = i := Nat.min_eq_left (by omega)
   have hi0 : ¬ (i : Int) < 0 := by omega
   have hicap : i < bc := by omega
   obtain ⟨y, hy⟩ : ∃ y, bs[i]? = some y := ⟨_, List.getElem?_eq_getElem (by rw [HBN.out]; exact hlt)⟩
   obtain ⟨aoz, cpz, ez, hez, hrz⟩ := id (HV.out.keeps HI.out.1)
   obtain ⟨g, off, hao, hg, hcc⟩ := hrz (by rw [HBN.out]; omega)
   simp only [Value.slice.injEq] at ez
   obtain ⟨rfl, hzz, rfl⟩ := ez
   subst hao
   have hc := hcc i y hy
   have HPY := Lib.hid (fun h => pick_yes (N := N) hy h)
   have HPN := Lib.hid (fun h => pick_no (N := N) (l := bs) (i := i) h)
   have hpl := pick_len N bs i
   have hbt := HBT.out i
   obtain ⟨d, hd⟩ : ∃ d, N.testBit i = d := ⟨_, rfl⟩
   rw [hd] at hbt
   have HD := Lib.hid hd
   obtain ⟨⟨yh1, yh2⟩, yk, yo, ⟨ya1, ya2⟩, ⟨yb1, yb2⟩, yi⟩ := y
   clear hcc hrz hez hzz hy hd
   obtain ⟨c0, c1, c2, c3, c4, c5, c6, c7, c8⟩ := n9 hc
   have hka : KF wr (wr.alloc (bM yk yh1 yh2 yo ya1 ya2 yb1 yb2 yi)) := (Keeps.refl _ _).alloc _
   have hal := (MapKept.heap_alloc wr (bM yk yh1 yh2 yo ya1 ya2 yb1 yb2 yi)).1
   have HJ : Hid (KF WB (wr.alloc (bM yk yh1 yh2 yo ya1 ya2 yb1 yb2 yi)) ∧ OwnK stmE WB.heap.size (wr.alloc (bM yk yh1 yh2 yo ya1 ya2 yb1 yb2 yi)) ov (base ++ fx ++ pickI N bs i)) := ⟨HI.out.1.trans hka, HI.out.2.keeps hka (fun _ _ z => z)⟩
   obtain ⟨b, hb⟩ : ∃ b, wr.heap.size = b := ⟨_, rfl⟩
   rw [hb] at hal
   have HB := Lib.hid hal
   go_upto_region 5 with fail
   (try simp only [hb])
   clear hka hal hb hc hg HI c0 c1 c2 c3 c4 c5 c6 c7 c8
   generalize wr.alloc (bM yk yh1 yh2 yo ya1 ya2 yb1 yb2 yi) = w6 at *
   cases d
   case false =>
    have HN2 : Hid (KF WB w6 ∧ OwnK stmE WB.heap.size w6 ov (base ++ fx ++ pickI N bs (i + 1))) := by rw [HPN.out HD.out]; exact HJ.out
    clear HJ HB HPY HPN HD
    go_wp2_with fail
    go_roundg (bn - (i + 1))
    case measure => omega
    case rel => exact ⟨i + 1, _, by omega, rfl, by go_num, rfl, HN2⟩
   case true =>
    obtain ⟨p0, f0, p1, f1, p2, f2, p3, f3, p4, f4, p5, f5, p6, f6, p7, f7, p8, f8⟩ := cf9 HB.out
    clear f0 f1 f2 f3 f4 f5 f6 f7 f8
    have hka : KF w6 (w6.alloc (bM yk yh1 yh2 yo ya1 ya2 yb1 yb2 yi)) := (Keeps.refl _ _).alloc _
    have HJE : Hid (KF WB (w6.alloc (bM yk yh1 yh2 yo ya1 ya2 yb1 yb2 yi)) ∧ OwnK stmE WB.heap.size (w6.alloc (bM yk yh1 yh2 yo ya1 ya2 yb1 yb2 yi)) ov (base ++ fx ++ pickI N bs i)) := ⟨HJ.out.1.trans hka, HJ.out.2.keeps hka (fun _ _ z => z)⟩
    have HSZ := Lib.hid HJE.out.1.size
    have HLN : Hid ((base ++ fx ++ pickI N bs i).length + 1 ≤ 100000) := by show _ ≤ _; have := HLB.out; rw [List.length_append]; omega
    clear hka HJ HB
    go_wp2_with (at_builtin; refine app_k (E := stmE) rfl _ _ rfl WB.heap.size ov (base ++ fx ++ pickI N bs i) rfl HJE.out.2 _ [((yh1, yh2), yk, yo, (ya1, ya2), (yb1, yb2), yi)] rfl (one_srcK (E := stmE) w6 ((yh1, yh2), yk, yo, (ya1, ya2), (yb1, yb2), yi) #[.int .i64 yk, .string ⟨yh1.toArray⟩, .string ⟨yh2.toArray⟩, .string ⟨yo.toArray⟩, .string ⟨ya1.toArray⟩, .string ⟨ya2.toArray⟩, .string ⟨yb1.toArray⟩, .string ⟨yb2.toArray⟩, .string ⟨yi.toArray⟩] rfl) HLN.out HSZ.out ?_)
    intro ov' w9 ho hk
    have HN2 : Hid (KF WB w9 ∧ OwnK stmE WB.heap.size w9 ov' (base ++ fx ++ pickI N bs (i + 1))) := ⟨HJE.out.1.trans_new hk (fun q hq e => by have := own_block HJE.out.2 q e; omega), by rw [HPY.out HD.out]; simpa only [List.append_assoc] using ho⟩
    clear HJE HSZ HPY HPN HD HLN ho hk p0 p1 p2 p3 p4 p5 p6 p7 p8
    go_wp2_with fail
    go_roundg (bn - (i + 1))
    case measure => omega
    case rel => exact ⟨i + 1, _, by omega, rfl, by go_num, rfl, HN2⟩
  ·obtain rfl : i = bn := by omega
   have hiI : ¬ (i : Int) < (i : Int) := by omega
   have hpl := pick_len N bs i
   have HSR := Lib.hid (sunion_spec HI.out.2.src (ownK_nil stmE wr.heap.size wr).src (by rw [List.length_append]; have := HLB.out; omega) (by simp))
   have HK : Hid (KF W wr) := HKB.out.trans HI.out.1
   have HEQ : Hid (sortO stmLt ((base ++ fx ++ pickI N bs i) ++ []) = uState base fx bs N) := by
    show _ = _
    unfold uState
    rw [List.append_nil, HBN.out]
   clear HI hpl
   go_wp2_with fail
   refine HSR.out.mono ?_
   rintro e w2 ⟨v2, rfl, h2⟩
   have HE : Hid (KF W w2 ∧ OwnK stmE W.heap.size w2 v2 (uState base fx bs N)) := ⟨HK.out.trans h2.out.1, by rw [← HEQ.out]; exact h2.out.2.base HK.out.size⟩
   clear HSR h2 HK HEQ
   go_wp2_with fail
   go_ret
   exact ⟨_, rfl, HE⟩
end Go.Proofs.YtckikkkdabpjkaaGreat
