/-
 The document's Roles of a policy.
-/
import Derived.Test.YtckikkkdabpjkaaGreatPolSame
import Derived.Test.YtckikkkdabpjkaaGreatMA
import Derived.Test.YtckikkkdabpjkaaGreatMC
import Derived.Test.YtckikkkdabpjkaaGreatMO
set_option linter.unusedVariables false
set_option linter.unusedSimpArgs false
set_option linter.unnecessarySimpa false
namespace Go.Proofs.YtckikkkdabpjkaaGreat
open Go.ChangeShapes Go.WideShapes Go.ChangeAt Go.RowKit Go.Deep
/-- No row of a policy is long. -/
def FewR (p : Pol) : Prop := p.1.length ≤ 100 ∧ p.2.1.length ≤ 100 ∧ p.2.2.1.length ≤ 100 ∧ p.2.2.2.length ≤ 100 ∧ ∀ q ∈ p.2.2.2, q.2.2.2.length ≤ 20
theorem rolesS_len (x : Stm) : (rolesS x).length ≤ 3 := by
 unfold rolesS
 split <;> split <;> simp
theorem rolesQ_len (x : Qry) : (rolesQ x).length ≤ 2 := by
 unfold rolesQ
 split <;> simp
theorem flat_len_le {α β : Type} {f : α → List β} {m : Nat} (h : ∀ x, (f x).length ≤ m) : ∀ l : List α, (l.flatMap f).length ≤ m * l.length
 | [] => Nat.zero_le _
 | x :: l => by
  have := h x
  have := flat_len_le h l
  rw [List.flatMap_cons, List.length_append, List.length_cons, Nat.mul_succ]
  omega
theorem flat_next {α β : Type} (f : α → List β) {l : List α} {i : Nat} {y : α} (h : l[i]? = some y) : (l.take (i + 1)).flatMap f = (l.take i).flatMap f ++ f y := by
 rw [List.take_add_one, h, List.flatMap_append]
 simp
section
variable {α : Type} {E : Elt α}
end
set_option maxRecDepth 100000
set_option maxHeartbeats 6400000
end Go.Proofs.YtckikkkdabpjkaaGreat
/-
 The program's roles of a statement, of a query, of a policy.
-/
set_option linter.unusedVariables false
set_option linter.unusedSimpArgs false
set_option linter.unnecessarySimpa false
namespace Go.Proofs.YtckikkkdabpjkaaGreat
open Go.ChangeShapes Go.WideShapes Go.ChangeAt Go.RowKit Go.Deep
section
variable {α : Type} {E : Elt α}
/-- A row literal. -/
theorem lit_srcK (W : World) (l : List α) (c : Array Value) (hc : c.toList = flat E l) : SrcK E (W.alloc (.cells c E.T)) (.slice (some ⟨W.heap.size, 0, none⟩) l.length l.length) l := by
 have ha := (MapKept.heap_alloc W (.cells c E.T)).1
 refine ⟨⟨_, l.length, rfl, Nat.le_refl _, fun _ => ⟨W.heap.size, 0, rfl, lt_of_heap ha, fun j y hj i u hu => ?_⟩⟩, fun n cap e => by simp at e⟩
 rw [Nat.zero_add, cell_of_heap ha, ← Array.getElem?_toList, hc]
 exact flat_get E l j y i u hj hu
end
/-- The roles of a policy, as the program has them. -/
def rolesP (p : Pol) : List Rol := (p.2.1 ++ p.2.2.1) ++ p.1.flatMap rolesS ++ p.2.2.2.flatMap rolesQ
theorem rolesP_mem (p : Pol) (r : Rol) : r ∈ rolesP p ↔ r ∈ rolesL p := by
 unfold rolesP rolesL
 simp only [List.mem_append]
 constructor
 ·rintro (((h | h) | h) | h)
  ·exact .inl (.inl (.inr h))
  ·exact .inl (.inr h)
  ·exact .inl (.inl (.inl h))
  ·exact .inr h
 ·rintro (((h | h) | h) | h)
  ·exact .inl (.inr h)
  ·exact .inl (.inl (.inl h))
  ·exact .inl (.inl (.inr h))
  ·exact .inr h
set_option maxRecDepth 100000
set_option maxHeartbeats 3200000
theorem sroles_spec {W : World} (y : Stm) : Calls Tryz.prog 169 #[stmV y] W fun e W' => ∃ v, e = .returned v ∧ Hid (SrcK rolE W' v (rolesS y) ∧ KF W W') := by
 obtain ⟨⟨h1, h2⟩, k, o, ⟨a1, a2⟩, ⟨b1, b2⟩, i⟩ := y
 unfold stmV
 by_cases k2 : k = 2
 case pos =>
  subst k2
  have hrs : rolesS ((h1, h2), 2, o, (a1, a2), (b1, b2), i) = [(h1, h2), (a1, a2)] := by unfold rolesS; simp
  rw [hrs]
  clear hrs
  have hal := (MapKept.heap_alloc W (bM 2 h1 h2 o a1 a2 b1 b2 i)).1
  obtain ⟨WA, hWA⟩ : ∃ q, W.alloc (bM 2 h1 h2 o a1 a2 b1 b2 i) = q := ⟨_, rfl⟩
  have hk : KF W WA := by rw [← hWA]; exact (Keeps.refl _ _).alloc _
  rw [hWA] at hal
  have HP : Hid (SrcK rolE (WA.alloc (.cells #[.string ⟨h1.toArray⟩, .string ⟨h2.toArray⟩, .string ⟨a1.toArray⟩, .string ⟨a2.toArray⟩] 28)) (.slice (some ⟨WA.heap.size, 0, none⟩) 2 2) [(h1, h2), (a1, a2)] ∧ KF W (WA.alloc (.cells #[.string ⟨h1.toArray⟩, .string ⟨h2.toArray⟩, .string ⟨a1.toArray⟩, .string ⟨a2.toArray⟩] 28))) := ⟨lit_srcK (E := rolE) WA [(h1, h2), (a1, a2)] #[.string ⟨h1.toArray⟩, .string ⟨h2.toArray⟩, .string ⟨a1.toArray⟩, .string ⟨a2.toArray⟩] rfl, hk.trans ((Keeps.refl _ _).alloc _)⟩
  obtain ⟨c0, f0, c1, f1, c2, f2, c3, f3, c4, f4, c5, f5, c6, f6, c7, f7, c8, f8⟩ := cf9 hal
  clear hal hk
  go_enter Tryz.func169, Tryz.ntmps169
  go_upto_region 1 with fail
  clear hWA
  go_wp2_with fail
  go_ret
  exact ⟨_, rfl, HP⟩
 case neg =>
  by_cases k3 : k = 3
  case pos =>
   subst k3
   have hrs : rolesS ((h1, h2), 3, o, (a1, a2), (b1, b2), i) = [(h1, h2), (a1, a2)] := by unfold rolesS; simp
   rw [hrs]
   clear hrs
   have hal := (MapKept.heap_alloc W (bM 3 h1 h2 o a1 a2 b1 b2 i)).1
   obtain ⟨WA, hWA⟩ : ∃ q, W.alloc (bM 3 h1 h2 o a1 a2 b1 b2 i) = q := ⟨_, rfl⟩
   have hk : KF W WA := by rw [← hWA]; exact (Keeps.refl _ _).alloc _
   rw [hWA] at hal
   have HP : Hid (SrcK rolE (WA.alloc (.cells #[.string ⟨h1.toArray⟩, .string ⟨h2.toArray⟩, .string ⟨a1.toArray⟩, .string ⟨a2.toArray⟩] 28)) (.slice (some ⟨WA.heap.size, 0, none⟩) 2 2) [(h1, h2), (a1, a2)] ∧ KF W (WA.alloc (.cells #[.string ⟨h1.toArray⟩, .string ⟨h2.toArray⟩, .string ⟨a1.toArray⟩, .string ⟨a2.toArray⟩] 28))) := ⟨lit_srcK (E := rolE) WA [(h1, h2), (a1, a2)] #[.string ⟨h1.toArray⟩, .string ⟨h2.toArray⟩, .string ⟨a1.toArray⟩, .string ⟨a2.toArray⟩] rfl, hk.trans ((Keeps.refl _ _).alloc _)⟩
   obtain ⟨c0, f0, c1, f1, c2, f2, c3, f3, c4, f4, c5, f5, c6, f6, c7, f7, c8, f8⟩ := cf9 hal
   clear hal hk
   go_enter Tryz.func169, Tryz.ntmps169
   go_upto_region 1 with fail
   clear hWA
   go_wp2_with fail
   go_ret
   exact ⟨_, rfl, HP⟩
  case neg =>
   by_cases k4 : k = 4
   case pos =>
    subst k4
    have hrs : rolesS ((h1, h2), 4, o, (a1, a2), (b1, b2), i) = [(h1, h2), (a1, a2), (b1, b2)] := by unfold rolesS; simp
    rw [hrs]
    clear hrs
    have hal := (MapKept.heap_alloc W (bM 4 h1 h2 o a1 a2 b1 b2 i)).1
    obtain ⟨WA, hWA⟩ : ∃ q, W.alloc (bM 4 h1 h2 o a1 a2 b1 b2 i) = q := ⟨_, rfl⟩
    have hk : KF W WA := by rw [← hWA]; exact (Keeps.refl _ _).alloc _
    rw [hWA] at hal
    have HP : Hid (SrcK rolE (WA.alloc (.cells #[.string ⟨h1.toArray⟩, .string ⟨h2.toArray⟩, .string ⟨a1.toArray⟩, .string ⟨a2.toArray⟩, .string ⟨b1.toArray⟩, .string ⟨b2.toArray⟩] 28)) (.slice (some ⟨WA.heap.size, 0, none⟩) 3 3) [(h1, h2), (a1, a2), (b1, b2)] ∧ KF W (WA.alloc (.cells #[.string ⟨h1.toArray⟩, .string ⟨h2.toArray⟩, .string ⟨a1.toArray⟩, .string ⟨a2.toArray⟩, .string ⟨b1.toArray⟩, .string ⟨b2.toArray⟩] 28))) := ⟨lit_srcK (E := rolE) WA [(h1, h2), (a1, a2), (b1, b2)] #[.string ⟨h1.toArray⟩, .string ⟨h2.toArray⟩, .string ⟨a1.toArray⟩, .string ⟨a2.toArray⟩, .string ⟨b1.toArray⟩, .string ⟨b2.toArray⟩] rfl, hk.trans ((Keeps.refl _ _).alloc _)⟩
    obtain ⟨c0, f0, c1, f1, c2, f2, c3, f3, c4, f4, c5, f5, c6, f6, c7, f7, c8, f8⟩ := cf9 hal
    clear hal hk
    go_enter Tryz.func169, Tryz.ntmps169
    go_upto_region 1 with fail
    clear hWA
    go_wp2_with fail
    go_ret
    exact ⟨_, rfl, HP⟩
   case neg =>
    have bk2 : (k == 2) = false := beq_eq_false_iff_ne.2 k2
    have bk3 : (k == 3) = false := beq_eq_false_iff_ne.2 k3
    have bk4 : (k == 4) = false := beq_eq_false_iff_ne.2 k4
    have hrs : rolesS ((h1, h2), k, o, (a1, a2), (b1, b2), i) = [(h1, h2)] := by unfold rolesS; simp [k4]; omega
    rw [hrs]
    clear hrs
    have hal := (MapKept.heap_alloc W (bM k h1 h2 o a1 a2 b1 b2 i)).1
    obtain ⟨WA, hWA⟩ : ∃ q, W.alloc (bM k h1 h2 o a1 a2 b1 b2 i) = q := ⟨_, rfl⟩
    have hk : KF W WA := by rw [← hWA]; exact (Keeps.refl _ _).alloc _
    rw [hWA] at hal
    have HP : Hid (SrcK rolE (WA.alloc (bR h1 h2)) (.slice (some ⟨WA.heap.size, 0, none⟩) 1 1) [(h1, h2)] ∧ KF W (WA.alloc (bR h1 h2))) := ⟨lit_srcK (E := rolE) WA [(h1, h2)] #[.string ⟨h1.toArray⟩, .string ⟨h2.toArray⟩] rfl, hk.trans ((Keeps.refl _ _).alloc _)⟩
    obtain ⟨c0, f0, c1, f1, c2, f2, c3, f3, c4, f4, c5, f5, c6, f6, c7, f7, c8, f8⟩ := cf9 hal
    clear hal hk
    go_enter Tryz.func169, Tryz.ntmps169
    go_upto_region 1 with fail
    clear hWA
    go_wp2_with fail
    go_ret
    exact ⟨_, rfl, HP⟩
theorem qsecond_spec {W : World} (k : Int) : Calls Tryz.prog 156 #[.int .i64 k] W fun e W' => e = .returned (.bool (decide (k = 5 ∨ k = 6))) ∧ W = W' := by
 by_cases h5 : k = 5
 ·subst h5
  go_enter Tryz.func156, Tryz.ntmps156
  go_wp2_with fail
  go_ret
  exact ⟨rfl, rfl⟩
 ·by_cases h6 : k = 6
  ·subst h6
   go_enter Tryz.func156, Tryz.ntmps156
   go_wp2_with fail
   go_ret
   exact ⟨rfl, rfl⟩
  ·have b5 : (k == 5) = false := beq_eq_false_iff_ne.2 h5
   have b6 : (k == 6) = false := beq_eq_false_iff_ne.2 h6
   rw [decide_eq_false (by omega : ¬ (k = 5 ∨ k = 6))]
   go_enter Tryz.func156, Tryz.ntmps156
   go_wp2_with fail
   go_ret
   exact ⟨rfl, rfl⟩
theorem qroles_spec {W : World} (q : Qry) (v : Value) : Calls Tryz.prog 173 #[qryV q v] W fun e W' => ∃ u, e = .returned u ∧ Hid (SrcK rolE W' u (rolesQ q) ∧ KF W W') := by
 obtain ⟨k, ⟨a1, a2⟩, ⟨b1, b2⟩, wl⟩ := q
 unfold qryV
 simp only
 obtain ⟨d, hd⟩ : ∃ d, decide (k = 5 ∨ k = 6) = d := ⟨_, rfl⟩
 have HSE : Hid (∀ w, Calls Tryz.prog 156 #[.int .i64 k] w fun e W' => e = .returned (.bool d) ∧ w = W') := fun w => by rw [← hd]; exact qsecond_spec k
 have hal := (MapKept.heap_alloc W (.cells #[.int .i64 k, .string ⟨a1.toArray⟩, .string ⟨a2.toArray⟩, .string ⟨b1.toArray⟩, .string ⟨b2.toArray⟩, v] 31)).1
 obtain ⟨WA, hWA⟩ : ∃ q, W.alloc (.cells #[.int .i64 k, .string ⟨a1.toArray⟩, .string ⟨a2.toArray⟩, .string ⟨b1.toArray⟩, .string ⟨b2.toArray⟩, v] 31) = q := ⟨_, rfl⟩
 have hk : KF W WA := by rw [← hWA]; exact (Keeps.refl _ _).alloc _
 rw [hWA] at hal
 obtain ⟨c0, f0, c1, f1, c2, f2, c3, f3, c4, f4, c5, f5⟩ := cf6 hal
 clear hal
 have HK := Lib.hid hk
 have HD := Lib.hid hd
 clear hk hd
 cases d
 case false =>
  have hrs : rolesQ (k, (a1, a2), (b1, b2), wl) = [(a1, a2)] := by unfold rolesQ; rw [if_neg (show ¬ (k = 5 ∨ k = 6) from of_decide_eq_false HD.out)]
  rw [hrs]
  clear hrs
  have HP : Hid (SrcK rolE (WA.alloc (bR a1 a2)) (.slice (some ⟨WA.heap.size, 0, none⟩) 1 1) [(a1, a2)] ∧ KF W (WA.alloc (bR a1 a2))) := ⟨lit_srcK (E := rolE) WA [(a1, a2)] #[.string ⟨a1.toArray⟩, .string ⟨a2.toArray⟩] rfl, HK.out.trans ((Keeps.refl _ _).alloc _)⟩
  clear HK HD
  go_enter Tryz.func173, Tryz.ntmps173
  go_upto_region 1 with fail
  clear hWA
  go_wp2_with fail
  refine (HSE.out _).mono ?_
  rintro e w2 ⟨rfl, rfl⟩
  go_wp2_with fail
  go_ret
  exact ⟨_, rfl, HP⟩
 case true =>
  have hrs : rolesQ (k, (a1, a2), (b1, b2), wl) = [(a1, a2), (b1, b2)] := by unfold rolesQ; rw [if_pos (show (k = 5 ∨ k = 6) from of_decide_eq_true HD.out)]
  rw [hrs]
  clear hrs
  have HP : Hid (SrcK rolE (WA.alloc (.cells #[.string ⟨a1.toArray⟩, .string ⟨a2.toArray⟩, .string ⟨b1.toArray⟩, .string ⟨b2.toArray⟩] 28)) (.slice (some ⟨WA.heap.size, 0, none⟩) 2 2) [(a1, a2), (b1, b2)] ∧ KF W (WA.alloc (.cells #[.string ⟨a1.toArray⟩, .string ⟨a2.toArray⟩, .string ⟨b1.toArray⟩, .string ⟨b2.toArray⟩] 28))) := ⟨lit_srcK (E := rolE) WA [(a1, a2), (b1, b2)] #[.string ⟨a1.toArray⟩, .string ⟨a2.toArray⟩, .string ⟨b1.toArray⟩, .string ⟨b2.toArray⟩] rfl, HK.out.trans ((Keeps.refl _ _).alloc _)⟩
  clear HK HD
  go_enter Tryz.func173, Tryz.ntmps173
  go_upto_region 1 with fail
  clear hWA
  go_wp2_with fail
  refine (HSE.out _).mono ?_
  rintro e w2 ⟨rfl, rfl⟩
  go_wp2_with fail
  go_ret
  exact ⟨_, rfl, HP⟩
theorem proles_spec {W : World} {v0 v1 v2 v3 : Value} {p : Pol} {P : Nat → Prop} (h : PolX W v0 v1 v2 v3 p P) (hl : FewR p) :
 Calls Tryz.prog 118 #[.agg #[v0, v1, v2, v3]] W fun e W' => ∃ v, e = .returned v ∧ Hid (OwnK rolE W.heap.size W' v (rolesP p) ∧ KF W W') := by
 have hX1 := h.2.1.1
 have hX2 := h.2.2.1.1
 obtain ⟨l0, l1, l2, l3⟩ := p
 simp only at hX1 hX2
 obtain ⟨hl0, hl1, hl2, hl3, hlw⟩ := hl
 simp only at hl0 hl1 hl2 hl3 hlw
 obtain ⟨h0, h1, h2, h3⟩ := h
 simp only at h0 h1 h2 h3
 obtain ⟨lv, hlv, h3r, h3q⟩ := id h3
 obtain ⟨ao0, cp0, hv0, hle0, hr0⟩ := id h0.1.1
 obtain ⟨ao1, cp1, hv1, hle1, hr1⟩ := id h1.1.1
 obtain ⟨ao2, cp2, hv2, hle2, hr2⟩ := id h2.1.1
 obtain ⟨ao3, cp3, hv3, hle3, hr3⟩ := id h3r.1.1
 subst hv0 hv1 hv2 hv3
 clear hr0 hr1 hr2 hr3
 obtain ⟨n0, hn0⟩ : ∃ n, l0.length = n := ⟨_, rfl⟩
 obtain ⟨n1, hn1⟩ : ∃ n, l1.length = n := ⟨_, rfl⟩
 obtain ⟨n2, hn2⟩ : ∃ n, l2.length = n := ⟨_, rfl⟩
 obtain ⟨n3, hn3⟩ : ∃ n, l3.length = n := ⟨_, rfl⟩
 rw [hn0] at h0 hle0 hl0 ⊢
 rw [hn1] at h1 hle1 hl1 ⊢
 rw [hn2] at h2 hle2 hl2 ⊢
 rw [hn3] at hlv hl3
 rw [hlv] at h3 h3r hle3 ⊢
 rw [hn1] at hX1
 rw [hn2] at hX2
 have HN0 := Lib.hid hn0
 have HN1 := Lib.hid hn1
 have HN2 := Lib.hid hn2
 have HN3 := Lib.hid hn3
 have HLV := Lib.hid hlv
 have HLW := Lib.hid hlw
 have ha := (MapKept.heap_alloc W (bP ao0 n0 cp0 ao1 n1 cp1 ao2 n2 cp2 ao3 n3 cp3)).1
 obtain ⟨WB, hWB⟩ : ∃ q, W.alloc (bP ao0 n0 cp0 ao1 n1 cp1 ao2 n2 cp2 ao3 n3 cp3) = q := ⟨_, rfl⟩
 have hkA : KF W WB := by rw [← hWB]; exact (Keeps.refl _ _).alloc _
 rw [hWB] at ha
 have HS := Lib.hid ha
 have HK0 := Lib.hid hkA
 have HV0 : Hid (RdK stmE WB (.slice ao0 n0 cp0) l0) := h0.1.1.keeps hkA
 have HV1 : Hid (RdK rolE WB (.slice ao1 n1 cp1) l1) := h1.1.1.keeps hkA
 have HV2 : Hid (RdK rolE WB (.slice ao2 n2 cp2) l2) := h2.1.1.keeps hkA
 have HV3 : Hid (RdK qE WB (.slice ao3 n3 cp3) lv) := h3r.1.1.keeps hkA
 have HQ : Hid (∀ (j : Nat) (q : Qry) (qv : QV), l3[j]? = some q → lv[j]? = some qv → RelX W qv q P) := h3q
 obtain ⟨LB, hLB⟩ : ∃ q, WB.heap.size = q := ⟨_, rfl⟩
 have HLB := Lib.hid hLB
 have HX1 : Hid (SrcK rolE WB (.slice ao1 n1 cp1) l1) := hX1.keeps hkA
 have HX2 : Hid (SrcK rolE WB (.slice ao2 n2 cp2) l2) := hX2.keeps hkA
 clear hX1 hX2 ha hkA h0 h1 h2 h3 h3r h3q hlv hn0 hn1 hn2 hn3 hlw hLB
 have HSZ : Hid (W.heap.size ≤ LB) := by have := HK0.out.size; have := HLB.out; show _ ≤ _; omega
 have hal := (MapKept.heap_alloc WB (.cells #[.slice ao1 n1 cp1, .slice ao2 n2 cp2] 23)).1
 obtain ⟨WC, hWC⟩ : ∃ q, WB.alloc (.cells #[.slice ao1 n1 cp1, .slice ao2 n2 cp2] 23) = q := ⟨_, rfl⟩
 have hkC : KF WB WC := by rw [← hWC]; exact (Keeps.refl _ _).alloc _
 rw [hWC] at hal
 have HKC := Lib.hid hkC
 have HZC : Hid (LB ≤ WC.heap.size) := by have := hkC.size; have := HLB.out; show _ ≤ _; omega
 have HCC := Lib.hid (rconcat_spec (W := WC) (ga := WB.heap.size) (lt_of_heap hal) (by rw [cell_of_heap hal]; rfl) (by rw [cell_of_heap hal]; rfl) (HX1.out.keeps hkC) (HX2.out.keeps hkC) (by rw [HN1.out]; omega) (by rw [HN2.out]; omega))
 clear hal hkC HX1 HX2
 go_enter Tryz.func118, Tryz.ntmps118
 go_upto_region 1 with fail
 clear hWB
 obtain ⟨Sc0, Sf0, Sc1, Sf1, Sc2, Sf2, Sc3, Sf3⟩ := cf4 HS.out
 go_wp2_with fail
 (try simp only [hWC])
 refine HCC.out.mono ?_
 rintro e w1 ⟨u, rfl, hu⟩
 clear hWC HCC Sc0 Sf0 Sc1 Sf1 Sc2 Sf2 Sc3 Sf3
 have HU : Hid (OwnK rolE LB w1 u (l1 ++ l2) ∧ KF WB w1) := ⟨hu.out.1.base HZC.out, HKC.out.trans hu.out.2⟩
 clear hu HKC HZC
 obtain ⟨Sc0, Sf0, Sc1, Sf1, Sc2, Sf2, Sc3, Sf3⟩ := cf4 ((HU.out.2.block _ (lt_of_heap HS.out) (fun x => x)).trans HS.out)
 go_upto_region 2 with fail
 go_wp2_with fail
 go_loopg [3, 17] n0 (fun g s t wx => ∃ (i : Nat) (sv : Value), i ≤ n0 ∧ g = n0 - i ∧ t = .int .i64 i ∧ sv = s ∧ Hid (OwnK rolE LB wx sv ((l1 ++ l2) ++ (l0.take i).flatMap rolesS) ∧ KF WB wx))
 case atStart => exact ⟨0, _, Nat.zero_le _, rfl, rfl, rfl, by rw [List.take_zero, List.flatMap_nil, List.append_nil]; exact HU.out⟩
 case round =>
  clear HU Sc0 Sf0 Sc1 Sf1 Sc2 Sf2 Sc3 Sf3
  obtain ⟨i, sv, hi, rfl, rfl, rfl, HI0⟩ := hrel
  by_cases hlt : i < n0
  ·skip
   have hiI : (i : Int) < (n0 : Int) := by omega
   have hwi : IntKind.i64.wrap ((i : Int) + 1) = (i : Int) + 1 := IntWalk.i64_in _ (by omega)
   have hrd := HV0.out.keeps HI0.out.2
   obtain ⟨aoz, cpz, ez, hez, hrz⟩ := hrd
   have hll : l0.length = n0 := by simpa using (Value.slice.inj ez).2.1.symm
   obtain ⟨y, hy⟩ : ∃ y, l0[i]? = some y := ⟨_, List.getElem?_eq_getElem (by rw [hll]; exact hlt)⟩
   obtain ⟨g, off, hao, hg, hcc⟩ := hrz (by omega)
   simp only [Value.slice.injEq] at ez
   obtain ⟨rfl, hzz, rfl⟩ := ez
   subst hao
   have hicap : i < cp0 := by omega
   have hc := hcc i y hy
   have HY := Lib.hid hy
   obtain ⟨⟨yh1, yh2⟩, yk, yo, ⟨ya1, ya2⟩, ⟨yb1, yb2⟩, yi⟩ := y
   clear hcc hrz hez hzz hy hll
   obtain ⟨c0, c1, c2, c3, c4, c5, c6, c7, c8⟩ := n9 hc
   have HC : Hid (∀ w, Calls Tryz.prog 169 #[.agg #[.int .i64 yk, .string ⟨yh1.toArray⟩, .string ⟨yh2.toArray⟩, .string ⟨yo.toArray⟩, .string ⟨ya1.toArray⟩, .string ⟨ya2.toArray⟩, .string ⟨yb1.toArray⟩, .string ⟨yb2.toArray⟩, .string ⟨yi.toArray⟩]] w fun e W' => ∃ v, e = .returned v ∧ Hid (SrcK rolE W' v (rolesS ((yh1, yh2), yk, yo, (ya1, ya2), (yb1, yb2), yi)) ∧ KF w W')) := fun w => sroles_spec ((yh1, yh2), yk, yo, (ya1, ya2), (yb1, yb2), yi)
   have HRL : Hid ((rolesS ((yh1, yh2), yk, yo, (ya1, ya2), (yb1, yb2), yi)).length ≤ 3) := rolesS_len _
   have HNX : Hid ((l0.take (i + 1)).flatMap rolesS = (l0.take i).flatMap rolesS ++ rolesS ((yh1, yh2), yk, yo, (ya1, ya2), (yb1, yb2), yi)) := flat_next rolesS HY.out
   have hal := (MapKept.heap_alloc wr (bM yk yh1 yh2 yo ya1 ya2 yb1 yb2 yi)).1
   have hka : KF wr (wr.alloc (bM yk yh1 yh2 yo ya1 ya2 yb1 yb2 yi)) := (Keeps.refl _ _).alloc _
   obtain ⟨b, hb⟩ : ∃ b, wr.heap.size = b := ⟨_, rfl⟩
   rw [hb] at hal
   have HB := Lib.hid hal
   have HO : Hid (OwnK rolE LB (wr.alloc (bM yk yh1 yh2 yo ya1 ya2 yb1 yb2 yi)) _ _ ∧ KF WB (wr.alloc (bM yk yh1 yh2 yo ya1 ya2 yb1 yb2 yi))) := ⟨HI0.out.1.keeps hka (fun _ _ x => x), HI0.out.2.trans hka⟩
   have HLE : Hid (((l1 ++ l2) ++ (l0.take i).flatMap rolesS).length ≤ 90000) := by have h9 := flat_len_le (f := rolesS) (m := 3) rolesS_len (l0.take i); have h8 := List.length_take_le i l0; have := HN0.out; have := HN1.out; have := HN2.out; show _ ≤ _; simp only [List.length_append]; omega
   go_upto_region 5 with fail
   clear hal hka hb HI0 hc c0 c1 c2 c3 c4 c5 c6 c7 c8
   generalize wr.alloc (bM yk yh1 yh2 yo ya1 ya2 yb1 yb2 yi) = w2 at *
   obtain ⟨p0, f0, p1, f1, p2, f2, p3, f3, p4, f4, p5, f5, p6, f6, p7, f7, p8, f8⟩ := cf9 HB.out
   go_wp2_with fail
   refine (HC.out _).mono ?_
   rintro e w3 ⟨rv, rfl, hk⟩
   clear HB HC p0 f0 p1 f1 p2 f2 p3 f3 p4 f4 p5 f5 p6 f6 p7 f7 p8 f8
   have HR2 := Lib.hid hk.out.1
   have HOW := Lib.hid (HO.out.1.keeps hk.out.2 (fun _ _ x => x))
   have HKP := Lib.hid (HO.out.2.trans hk.out.2)
   have HZW : Hid (LB ≤ w3.heap.size) := by have := HKP.out.size; have := HLB.out; show _ ≤ _; omega
   clear hk HO
   go_wp2_with (at_builtin; refine app_k (E := rolE) rfl _ _ rfl LB _ _ rfl HOW.out _ _ rfl HR2.out (by have := HLE.out; have := HRL.out; omega) HZW.out ?_)
   intro v3 w6 ho hk
   have HN : Hid (OwnK rolE LB w6 v3 ((l1 ++ l2) ++ (l0.take (i + 1)).flatMap rolesS) ∧ KF WB w6) := ⟨by rw [HNX.out]; have ho2 := ho; simp only [List.append_assoc] at ho2 ⊢; exact ho2, HKP.out.trans_new hk (fun x hx e => by have := own_block HOW.out x e; have := HLB.out; omega)⟩
   clear HOW HKP HR2 HZW ho hk
   go_wp2_with fail
   go_roundg (n0 - (i + 1))
   case measure => omega
   case rel => exact ⟨i + 1, v3, by omega, rfl, by go_num, rfl, HN⟩
  ·obtain rfl : n0 = i := by omega
   have hiI : ¬ (n0 : Int) < (n0 : Int) := by omega
   have HU2 : Hid (OwnK rolE LB wr sv (l1 ++ l2 ++ l0.flatMap rolesS) ∧ KF WB wr) := by
    have q := HI0.out
    rw [List.take_of_length_le (by rw [HN0.out]; exact Nat.le_refl _)] at q
    exact q
   clear HI0
   obtain ⟨Sc0, Sf0, Sc1, Sf1, Sc2, Sf2, Sc3, Sf3⟩ := cf4 ((HU2.out.2.block _ (lt_of_heap HS.out) (fun x => x)).trans HS.out)
   generalize wr = w7 at *
   generalize sv = s7 at *
   go_wp2_with fail
   go_loopg [3, 29] n3 (fun g s t wx => ∃ (i : Nat) (sv : Value), i ≤ n3 ∧ g = n3 - i ∧ t = .int .i64 i ∧ sv = s ∧ Hid (OwnK rolE LB wx sv ((l1 ++ l2 ++ l0.flatMap rolesS) ++ (l3.take i).flatMap rolesQ) ∧ KF WB wx))
   case atStart => exact ⟨0, _, Nat.zero_le _, rfl, rfl, rfl, by rw [List.take_zero, List.flatMap_nil, List.append_nil]; exact HU2.out⟩
   case round =>
    clear HU2 Sc0 Sf0 Sc1 Sf1 Sc2 Sf2 Sc3 Sf3
    obtain ⟨i, sv, hi, rfl, rfl, rfl, HI0⟩ := hrel
    by_cases hlt : i < n3
    ·skip
     have hiI : (i : Int) < (n3 : Int) := by omega
     have hwi : IntKind.i64.wrap ((i : Int) + 1) = (i : Int) + 1 := IntWalk.i64_in _ (by omega)
     have hrd := HV3.out.keeps HI0.out.2
     obtain ⟨aoz, cpz, ez, hez, hrz⟩ := hrd
     have hll : lv.length = n3 := by simpa using (Value.slice.inj ez).2.1.symm
     obtain ⟨y, hy⟩ : ∃ y, lv[i]? = some y := ⟨_, List.getElem?_eq_getElem (by rw [hll]; exact hlt)⟩
     obtain ⟨g, off, hao, hg, hcc⟩ := hrz (by omega)
     simp only [Value.slice.injEq] at ez
     obtain ⟨rfl, hzz, rfl⟩ := ez
     subst hao
     have hicap : i < cp3 := by omega
     have hc := hcc i y hy
     have HY := Lib.hid hy
     obtain ⟨yk, ⟨ya1, ya2⟩, ⟨yb1, yb2⟩, yo, yn, yc⟩ := y
     clear hcc hrz hez hzz hy hll
     have c0 : wr.cell? ⟨g, off + i * 6, none⟩ = some (.int .i64 yk) := hc 0 _ rfl
     have c1 : wr.cell? ⟨g, off + i * 6 + 1, none⟩ = some (.string ⟨ya1.toArray⟩) := hc 1 _ rfl
     have c2 : wr.cell? ⟨g, off + i * 6 + 2, none⟩ = some (.string ⟨ya2.toArray⟩) := hc 2 _ rfl
     have c3 : wr.cell? ⟨g, off + i * 6 + 3, none⟩ = some (.string ⟨yb1.toArray⟩) := hc 3 _ rfl
     have c4 : wr.cell? ⟨g, off + i * 6 + 4, none⟩ = some (.string ⟨yb2.toArray⟩) := hc 4 _ rfl
     have c5 : wr.cell? ⟨g, off + i * 6 + 5, none⟩ = some (.slice yo yn yc) := hc 5 _ rfl
     obtain ⟨q, hq⟩ : ∃ q, l3[i]? = some q := ⟨_, List.getElem?_eq_getElem (by rw [HN3.out]; exact hlt)⟩
     have hrq := HQ.out i q _ hq HY.out
     have HC0 := Lib.hid (fun w => qroles_spec (W := w) q (.slice yo yn yc))
     have HRL : Hid ((rolesQ q).length ≤ 2) := rolesQ_len _
     have HNX : Hid ((l3.take (i + 1)).flatMap rolesQ = (l3.take i).flatMap rolesQ ++ rolesQ q) := flat_next rolesQ hq
     obtain ⟨e0, e1, e2, hz⟩ := hrq
     have HC : Hid (∀ w, Calls Tryz.prog 173 #[.agg #[.int .i64 yk, .string ⟨ya1.toArray⟩, .string ⟨ya2.toArray⟩, .string ⟨yb1.toArray⟩, .string ⟨yb2.toArray⟩, .slice yo yn yc]] w fun e W' => ∃ v, e = .returned v ∧ Hid (SrcK rolE W' v (rolesQ q) ∧ KF w W')) := fun w => by
      have z := HC0.out w
      unfold qryV at z
      rw [← e0, ← e1, ← e2] at z
      exact z
     clear e0 e1 e2 hz hq HC0
     have hal := (MapKept.heap_alloc wr (bQ yk ya1 ya2 yb1 yb2 yo yn yc)).1
     have hka : KF wr (wr.alloc (bQ yk ya1 ya2 yb1 yb2 yo yn yc)) := (Keeps.refl _ _).alloc _
     obtain ⟨b, hb⟩ : ∃ b, wr.heap.size = b := ⟨_, rfl⟩
     rw [hb] at hal
     have HB := Lib.hid hal
     have HO : Hid (OwnK rolE LB (wr.alloc (bQ yk ya1 ya2 yb1 yb2 yo yn yc)) _ _ ∧ KF WB (wr.alloc (bQ yk ya1 ya2 yb1 yb2 yo yn yc))) := ⟨HI0.out.1.keeps hka (fun _ _ x => x), HI0.out.2.trans hka⟩
     have HLE : Hid (((l1 ++ l2 ++ l0.flatMap rolesS) ++ (l3.take i).flatMap rolesQ).length ≤ 90000) := by have h9 := flat_len_le (f := rolesQ) (m := 2) rolesQ_len (l3.take i); have h8 := List.length_take_le i l3; have h7 := flat_len_le (f := rolesS) (m := 3) rolesS_len l0; have := HN0.out; have := HN1.out; have := HN2.out; have := HN3.out; show _ ≤ _; simp only [List.length_append]; omega
     go_upto_region 10 with fail
     clear hal hka hb HI0 hc c0 c1 c2 c3 c4 c5
     generalize wr.alloc (bQ yk ya1 ya2 yb1 yb2 yo yn yc) = w2 at *
     obtain ⟨p0, f0, p1, f1, p2, f2, p3, f3, p4, f4, p5, f5⟩ := cf6 HB.out
     go_wp2_with fail
     refine (HC.out _).mono ?_
     rintro e w3 ⟨rv, rfl, hk⟩
     clear HB HC p0 f0 p1 f1 p2 f2 p3 f3 p4 f4 p5 f5
     have HR2 := Lib.hid hk.out.1
     have HOW := Lib.hid (HO.out.1.keeps hk.out.2 (fun _ _ x => x))
     have HKP := Lib.hid (HO.out.2.trans hk.out.2)
     have HZW : Hid (LB ≤ w3.heap.size) := by have := HKP.out.size; have := HLB.out; show _ ≤ _; omega
     clear hk HO
     go_wp2_with (at_builtin; refine app_k (E := rolE) rfl _ _ rfl LB _ _ rfl HOW.out _ _ rfl HR2.out (by have := HLE.out; have := HRL.out; omega) HZW.out ?_)
     intro v3 w6 ho hk
     have HN : Hid (OwnK rolE LB w6 v3 ((l1 ++ l2 ++ l0.flatMap rolesS) ++ (l3.take (i + 1)).flatMap rolesQ) ∧ KF WB w6) := ⟨by rw [HNX.out]; have ho2 := ho; simp only [List.append_assoc] at ho2 ⊢; exact ho2, HKP.out.trans_new hk (fun x hx e => by have := own_block HOW.out x e; have := HLB.out; omega)⟩
     clear HOW HKP HR2 HZW ho hk
     go_wp2_with fail
     go_roundg (n3 - (i + 1))
     case measure => omega
     case rel => exact ⟨i + 1, v3, by omega, rfl, by go_num, rfl, HN⟩
    ·obtain rfl : n3 = i := by omega
     have hiI : ¬ (n3 : Int) < (n3 : Int) := by omega
     have HP : Hid (OwnK rolE W.heap.size wr sv (rolesP (l0, l1, l2, l3)) ∧ KF W wr) := by
      have q := HI0.out
      rw [List.take_of_length_le (by rw [HN3.out]; exact Nat.le_refl _)] at q
      exact ⟨q.1.base HSZ.out, HK0.out.trans q.2⟩
     clear HI0
     go_wp2_with fail
     go_ret
     exact ⟨_, rfl, HP⟩
end Go.Proofs.YtckikkkdabpjkaaGreat
