/-
  The document's proofs: a step that is right.
-/
import Derived.Test.YtahnedkdodjomaaProofRef
set_option linter.unusedVariables false
set_option linter.unusedSimpArgs false
set_option linter.unnecessarySimpa false
namespace Go.Proofs.Ytahnedkdodjomaa
open Go.ChangeShapes Go.WideShapes Go.ChangeAt Go.RowKit Go.Deep SetPlain
set_option maxRecDepth 100000
set_option maxHeartbeats 3200000
theorem right9_k1 {W : World} {P K : Nat} {ao so : Option Addr} {n cap hn hcp : Nat} {rs : List Rl} {l : List Sp} (hR : RuleRow W ao rs) (hrs : rs.length = n) (hcap : n ≤ cap) (hS : StRow W so l) (hh : l.length = hn) (hhc : hn ≤ hcp) (hlen : hn ≤ 1000000) (hP : P ≤ 64) (hK : K ≤ 64)
    (i c m : Nat) (head a b via : Int) (hr : rs[i]? = some ⟨1, head, c, a, b, via⟩) (hB : rightB P K ⟨1, head, c, a, b, via⟩ = true) (hc : c < P)  :
    Calls Try.prog 16 #[.int .i64 P, .int .i64 K, .slice ao n cap, .slice so hn hcp, .agg #[.int .i64 i, .int .i64 head, .int .i64 c, .int .i64 0]] W (fun e W' => e = .returned (.bool true) ∧ Below W.heap.size W W') := by
  have hin : i < n := by
    rcases Nat.lt_or_ge i rs.length with h | h
    · omega
    · rw [List.getElem?_eq_none h] at hr; cases hr
  obtain ⟨bb, off, rfl, hbb, hcc⟩ := hR (by omega)
  obtain ⟨c0, c1, c2, c3, c4, c5⟩ := hcc i _ hr
  simp only [] at c0 c1 c2 c3 c4 c5
  have hk0 : Keeps (fun _ => False) W ((W.alloc (SpObj ⟨i, head, c, 0⟩)).alloc (.cells #[.int .i64 1, .int .i64 head, .int .i64 c, .int .i64 a, .int .i64 b, .int .i64 via] 39)) := ((Keeps.refl _ _).alloc _).alloc _
  have q0 : ((W.alloc (SpObj ⟨i, head, c, 0⟩)).alloc (.cells #[.int .i64 1, .int .i64 head, .int .i64 c, .int .i64 a, .int .i64 b, .int .i64 via] 39)).heap[W.heap.size]? = some (SpObj ⟨i, head, c, 0⟩) := (Below.heap_alloc _ _ _ (by simp)).trans (MapKept.heap_alloc W _).1
  have q1 : ((W.alloc (SpObj ⟨i, head, c, 0⟩)).alloc (.cells #[.int .i64 1, .int .i64 head, .int .i64 c, .int .i64 a, .int .i64 b, .int .i64 via] 39)).heap[W.heap.size + 1]? = some (.cells #[.int .i64 1, .int .i64 head, .int .i64 c, .int .i64 a, .int .i64 b, .int .i64 via] 39) := by
    have := (MapKept.heap_alloc (W.alloc (SpObj ⟨i, head, c, 0⟩)) (.cells #[.int .i64 1, .int .i64 head, .int .i64 c, .int .i64 a, .int .i64 b, .int .i64 via] 39)).1
    rw [show (W.alloc (SpObj ⟨i, head, c, 0⟩)).heap.size = W.heap.size + 1 from by simp] at this
    exact this
  have HF : ∀ wD, Keeps (fun _ => False) ((W.alloc (SpObj ⟨i, head, c, 0⟩)).alloc (.cells #[.int .i64 1, .int .i64 head, .int .i64 c, .int .i64 a, .int .i64 b, .int .i64 via] 39)) wD → wD.cell? ⟨W.heap.size, 1, none⟩ = some (.int .i64 head) ∧ wD.cell? ⟨W.heap.size, 2, none⟩ = some (.int .i64 c) ∧ wD.cell? ⟨W.heap.size, 3, none⟩ = some (.int .i64 0) ∧ wD.cell? ⟨W.heap.size + 1, 0, none⟩ = some (.int .i64 1) ∧ wD.cell? ⟨W.heap.size + 1, 1, none⟩ = some (.int .i64 head) ∧ wD.cell? ⟨W.heap.size + 1, 2, none⟩ = some (.int .i64 c) ∧ wD.cell? ⟨W.heap.size + 1, 3, none⟩ = some (.int .i64 a) ∧ wD.cell? ⟨W.heap.size + 1, 4, none⟩ = some (.int .i64 b) ∧ wD.cell? ⟨W.heap.size + 1, 5, none⟩ = some (.int .i64 via) ∧ Hid (Below W.heap.size W wD) := fun wD hk => by
    have e0 := (hk.block _ (lt_of_heap q0) (fun x => x)).trans q0
    have e1 := (hk.block _ (lt_of_heap q1) (fun x => x)).trans q1
    unfold SpObj at e0
    refine ⟨?_, ?_, ?_, ?_, ?_, ?_, ?_, ?_, ?_, (hk0.trans hk).below (Nat.le_refl _) (fun _ _ x => x)⟩ <;> first | (rw [cell_of_heap e0]; rfl) | (rw [cell_of_heap e1]; rfl)
  have HA : Hid (∀ wD, Keeps (fun _ => False) ((W.alloc (SpObj ⟨i, head, c, 0⟩)).alloc (.cells #[.int .i64 1, .int .i64 head, .int .i64 c, .int .i64 a, .int .i64 b, .int .i64 via] 39)) wD → Hid (∀ wE, Keeps (fun _ => False) wD wE → wE.cell? ⟨W.heap.size, 1, none⟩ = some (.int .i64 head) ∧ wE.cell? ⟨W.heap.size, 2, none⟩ = some (.int .i64 c) ∧ wE.cell? ⟨W.heap.size, 3, none⟩ = some (.int .i64 0) ∧ wE.cell? ⟨W.heap.size + 1, 0, none⟩ = some (.int .i64 1) ∧ wE.cell? ⟨W.heap.size + 1, 1, none⟩ = some (.int .i64 head) ∧ wE.cell? ⟨W.heap.size + 1, 2, none⟩ = some (.int .i64 c) ∧ wE.cell? ⟨W.heap.size + 1, 3, none⟩ = some (.int .i64 a) ∧ wE.cell? ⟨W.heap.size + 1, 4, none⟩ = some (.int .i64 b) ∧ wE.cell? ⟨W.heap.size + 1, 5, none⟩ = some (.int .i64 via) ∧ Hid (Below W.heap.size W wE)) ∧ Hid (∀ wE x y, Keeps (fun _ => False) wD wE → (atF l x y).isSome = true → Calls Try.prog 15 #[.slice so hn hcp, .int .i64 x, .int .i64 y] wE fun e W' => e = .returned (.bool true) ∧ Keeps (fun _ => False) wD W')) := fun wD hk => by
    refine ⟨fun wE hk2 => HF wE (hk.trans hk2), fun wE x y hk2 hx => ?_⟩
    refine (has9_spec (hS.keeps (hk0.trans (hk.trans hk2))) hh hhc hlen x y).mono ?_
    rintro e W' ⟨rfl, hb⟩
    exact ⟨by rw [hx], hk2.trans (Keeps.of_below hb (Nat.le_refl _))⟩
  have HRR : Hid (∀ wD, Calls Try.prog 26 #[.int .i64 P, .int .i64 K, .agg #[.int .i64 1, .int .i64 head, .int .i64 c, .int .i64 a, .int .i64 b, .int .i64 via]] wD fun e W'' => e = .returned (.bool true) ∧ Below wD.heap.size wD W'') := fun wD => by
    rw [← hB]
    exact rr_spec wD P K ⟨1, head, c, a, b, via⟩
  have hiI : (i : Int) < (n : Int) := by omega
  have hcI : (c : Int) < (P : Int) := by omega
  have d1 : decide ((i : Int) < 0) = false := decide_eq_false (by omega)
  have d2 : decide (n ≤ i) = false := decide_eq_false (by omega)
  have d3 : decide ((c : Int) < 0) = false := decide_eq_false (by omega)
  have d4 : decide (P ≤ c) = false := decide_eq_false (by omega)
  have d5 : decide ((64 : Int) < (P : Int)) = false := decide_eq_false (by omega)
  have d6 : decide ((64 : Int) < (K : Int)) = false := decide_eq_false (by omega)
  have lb1 : bb < W.heap.size + 1 := by omega
  clear hR hS hcc hr hB q0 q1 hk0 HF
  go_enter Try.func16, Try.ntmps16
  go_upto_region 2 with fail
  refine (HRR.out _).mono ?_
  rintro e wD ⟨rfl, hbD⟩
  have hkD := Keeps.of_below (S := fun _ => False) hbD (Nat.le_refl _)
  obtain ⟨HF, HH⟩ := HA.out _ hkD
  obtain ⟨s1, s2, s3, r0, r1, r2, r3, r4, r5, HBW⟩ := HF.out _ (Keeps.refl _ _)
  have hkr := Keeps.refl (fun _ => False) wD
  clear hbD hkD HA HRR c0 c1 c2 c3 c4 c5
  go_wp2_with (go_at_call 15; refine (HH.out _ _ _ (by assumption) (by assumption)).mono ?_; rintro e wE ⟨rfl, hkE⟩; obtain ⟨s1, s2, s3, r0, r1, r2, r3, r4, r5, HBW⟩ := HF.out _ hkE)
  go_ret
  exact ⟨rfl, HBW.out⟩
theorem right9_k2 {W : World} {P K : Nat} {ao so : Option Addr} {n cap hn hcp : Nat} {rs : List Rl} {l : List Sp} (hR : RuleRow W ao rs) (hrs : rs.length = n) (hcap : n ≤ cap) (hS : StRow W so l) (hh : l.length = hn) (hhc : hn ≤ hcp) (hlen : hn ≤ 1000000) (hP : P ≤ 64) (hK : K ≤ 64)
    (i c m : Nat) (head rwho a b via : Int) (hr : rs[i]? = some ⟨2, head, rwho, a, b, via⟩) (hB : rightB P K ⟨2, head, rwho, a, b, via⟩ = true) (hc : c < P) (h1 : (atF l a c).isSome = true) :
    Calls Try.prog 16 #[.int .i64 P, .int .i64 K, .slice ao n cap, .slice so hn hcp, .agg #[.int .i64 i, .int .i64 head, .int .i64 c, .int .i64 0]] W (fun e W' => e = .returned (.bool true) ∧ Below W.heap.size W W') := by
  have hin : i < n := by
    rcases Nat.lt_or_ge i rs.length with h | h
    · omega
    · rw [List.getElem?_eq_none h] at hr; cases hr
  obtain ⟨bb, off, rfl, hbb, hcc⟩ := hR (by omega)
  obtain ⟨c0, c1, c2, c3, c4, c5⟩ := hcc i _ hr
  simp only [] at c0 c1 c2 c3 c4 c5
  have hk0 : Keeps (fun _ => False) W ((W.alloc (SpObj ⟨i, head, c, 0⟩)).alloc (.cells #[.int .i64 2, .int .i64 head, .int .i64 rwho, .int .i64 a, .int .i64 b, .int .i64 via] 39)) := ((Keeps.refl _ _).alloc _).alloc _
  have q0 : ((W.alloc (SpObj ⟨i, head, c, 0⟩)).alloc (.cells #[.int .i64 2, .int .i64 head, .int .i64 rwho, .int .i64 a, .int .i64 b, .int .i64 via] 39)).heap[W.heap.size]? = some (SpObj ⟨i, head, c, 0⟩) := (Below.heap_alloc _ _ _ (by simp)).trans (MapKept.heap_alloc W _).1
  have q1 : ((W.alloc (SpObj ⟨i, head, c, 0⟩)).alloc (.cells #[.int .i64 2, .int .i64 head, .int .i64 rwho, .int .i64 a, .int .i64 b, .int .i64 via] 39)).heap[W.heap.size + 1]? = some (.cells #[.int .i64 2, .int .i64 head, .int .i64 rwho, .int .i64 a, .int .i64 b, .int .i64 via] 39) := by
    have := (MapKept.heap_alloc (W.alloc (SpObj ⟨i, head, c, 0⟩)) (.cells #[.int .i64 2, .int .i64 head, .int .i64 rwho, .int .i64 a, .int .i64 b, .int .i64 via] 39)).1
    rw [show (W.alloc (SpObj ⟨i, head, c, 0⟩)).heap.size = W.heap.size + 1 from by simp] at this
    exact this
  have HF : ∀ wD, Keeps (fun _ => False) ((W.alloc (SpObj ⟨i, head, c, 0⟩)).alloc (.cells #[.int .i64 2, .int .i64 head, .int .i64 rwho, .int .i64 a, .int .i64 b, .int .i64 via] 39)) wD → wD.cell? ⟨W.heap.size, 1, none⟩ = some (.int .i64 head) ∧ wD.cell? ⟨W.heap.size, 2, none⟩ = some (.int .i64 c) ∧ wD.cell? ⟨W.heap.size, 3, none⟩ = some (.int .i64 0) ∧ wD.cell? ⟨W.heap.size + 1, 0, none⟩ = some (.int .i64 2) ∧ wD.cell? ⟨W.heap.size + 1, 1, none⟩ = some (.int .i64 head) ∧ wD.cell? ⟨W.heap.size + 1, 2, none⟩ = some (.int .i64 rwho) ∧ wD.cell? ⟨W.heap.size + 1, 3, none⟩ = some (.int .i64 a) ∧ wD.cell? ⟨W.heap.size + 1, 4, none⟩ = some (.int .i64 b) ∧ wD.cell? ⟨W.heap.size + 1, 5, none⟩ = some (.int .i64 via) ∧ Hid (Below W.heap.size W wD) := fun wD hk => by
    have e0 := (hk.block _ (lt_of_heap q0) (fun x => x)).trans q0
    have e1 := (hk.block _ (lt_of_heap q1) (fun x => x)).trans q1
    unfold SpObj at e0
    refine ⟨?_, ?_, ?_, ?_, ?_, ?_, ?_, ?_, ?_, (hk0.trans hk).below (Nat.le_refl _) (fun _ _ x => x)⟩ <;> first | (rw [cell_of_heap e0]; rfl) | (rw [cell_of_heap e1]; rfl)
  have HA : Hid (∀ wD, Keeps (fun _ => False) ((W.alloc (SpObj ⟨i, head, c, 0⟩)).alloc (.cells #[.int .i64 2, .int .i64 head, .int .i64 rwho, .int .i64 a, .int .i64 b, .int .i64 via] 39)) wD → Hid (∀ wE, Keeps (fun _ => False) wD wE → wE.cell? ⟨W.heap.size, 1, none⟩ = some (.int .i64 head) ∧ wE.cell? ⟨W.heap.size, 2, none⟩ = some (.int .i64 c) ∧ wE.cell? ⟨W.heap.size, 3, none⟩ = some (.int .i64 0) ∧ wE.cell? ⟨W.heap.size + 1, 0, none⟩ = some (.int .i64 2) ∧ wE.cell? ⟨W.heap.size + 1, 1, none⟩ = some (.int .i64 head) ∧ wE.cell? ⟨W.heap.size + 1, 2, none⟩ = some (.int .i64 rwho) ∧ wE.cell? ⟨W.heap.size + 1, 3, none⟩ = some (.int .i64 a) ∧ wE.cell? ⟨W.heap.size + 1, 4, none⟩ = some (.int .i64 b) ∧ wE.cell? ⟨W.heap.size + 1, 5, none⟩ = some (.int .i64 via) ∧ Hid (Below W.heap.size W wE)) ∧ Hid (∀ wE x y, Keeps (fun _ => False) wD wE → (atF l x y).isSome = true → Calls Try.prog 15 #[.slice so hn hcp, .int .i64 x, .int .i64 y] wE fun e W' => e = .returned (.bool true) ∧ Keeps (fun _ => False) wD W')) := fun wD hk => by
    refine ⟨fun wE hk2 => HF wE (hk.trans hk2), fun wE x y hk2 hx => ?_⟩
    refine (has9_spec (hS.keeps (hk0.trans (hk.trans hk2))) hh hhc hlen x y).mono ?_
    rintro e W' ⟨rfl, hb⟩
    exact ⟨by rw [hx], hk2.trans (Keeps.of_below hb (Nat.le_refl _))⟩
  have HRR : Hid (∀ wD, Calls Try.prog 26 #[.int .i64 P, .int .i64 K, .agg #[.int .i64 2, .int .i64 head, .int .i64 rwho, .int .i64 a, .int .i64 b, .int .i64 via]] wD fun e W'' => e = .returned (.bool true) ∧ Below wD.heap.size wD W'') := fun wD => by
    rw [← hB]
    exact rr_spec wD P K ⟨2, head, rwho, a, b, via⟩
  have hiI : (i : Int) < (n : Int) := by omega
  have hcI : (c : Int) < (P : Int) := by omega
  have d1 : decide ((i : Int) < 0) = false := decide_eq_false (by omega)
  have d2 : decide (n ≤ i) = false := decide_eq_false (by omega)
  have d3 : decide ((c : Int) < 0) = false := decide_eq_false (by omega)
  have d4 : decide (P ≤ c) = false := decide_eq_false (by omega)
  have d5 : decide ((64 : Int) < (P : Int)) = false := decide_eq_false (by omega)
  have d6 : decide ((64 : Int) < (K : Int)) = false := decide_eq_false (by omega)
  have lb1 : bb < W.heap.size + 1 := by omega
  clear hR hS hcc hr hB q0 q1 hk0 HF
  go_enter Try.func16, Try.ntmps16
  go_upto_region 2 with fail
  refine (HRR.out _).mono ?_
  rintro e wD ⟨rfl, hbD⟩
  have hkD := Keeps.of_below (S := fun _ => False) hbD (Nat.le_refl _)
  obtain ⟨HF, HH⟩ := HA.out _ hkD
  obtain ⟨s1, s2, s3, r0, r1, r2, r3, r4, r5, HBW⟩ := HF.out _ (Keeps.refl _ _)
  have hkr := Keeps.refl (fun _ => False) wD
  clear hbD hkD HA HRR c0 c1 c2 c3 c4 c5
  go_wp2_with (go_at_call 15; refine (HH.out _ _ _ (by assumption) (by assumption)).mono ?_; rintro e wE ⟨rfl, hkE⟩; obtain ⟨s1, s2, s3, r0, r1, r2, r3, r4, r5, HBW⟩ := HF.out _ hkE)
  go_ret
  exact ⟨rfl, HBW.out⟩
theorem right9_k3 {W : World} {P K : Nat} {ao so : Option Addr} {n cap hn hcp : Nat} {rs : List Rl} {l : List Sp} (hR : RuleRow W ao rs) (hrs : rs.length = n) (hcap : n ≤ cap) (hS : StRow W so l) (hh : l.length = hn) (hhc : hn ≤ hcp) (hlen : hn ≤ 1000000) (hP : P ≤ 64) (hK : K ≤ 64)
    (i c m : Nat) (head rwho a b via : Int) (hr : rs[i]? = some ⟨3, head, rwho, a, b, via⟩) (hB : rightB P K ⟨3, head, rwho, a, b, via⟩ = true) (hc : c < P) (hm : m < P) (h1 : (atF l a m).isSome = true) (x1 x2 : Int) (e1 : IntKind.i64.wrap ((m : Int) * K) = x1) (e2 : IntKind.i64.wrap (x1 + via) = x2) (h2 : (atF l x2 c).isSome = true) :
    Calls Try.prog 16 #[.int .i64 P, .int .i64 K, .slice ao n cap, .slice so hn hcp, .agg #[.int .i64 i, .int .i64 head, .int .i64 c, .int .i64 m]] W (fun e W' => e = .returned (.bool true) ∧ Below W.heap.size W W') := by
  have hin : i < n := by
    rcases Nat.lt_or_ge i rs.length with h | h
    · omega
    · rw [List.getElem?_eq_none h] at hr; cases hr
  obtain ⟨bb, off, rfl, hbb, hcc⟩ := hR (by omega)
  obtain ⟨c0, c1, c2, c3, c4, c5⟩ := hcc i _ hr
  simp only [] at c0 c1 c2 c3 c4 c5
  have hk0 : Keeps (fun _ => False) W ((W.alloc (SpObj ⟨i, head, c, m⟩)).alloc (.cells #[.int .i64 3, .int .i64 head, .int .i64 rwho, .int .i64 a, .int .i64 b, .int .i64 via] 39)) := ((Keeps.refl _ _).alloc _).alloc _
  have q0 : ((W.alloc (SpObj ⟨i, head, c, m⟩)).alloc (.cells #[.int .i64 3, .int .i64 head, .int .i64 rwho, .int .i64 a, .int .i64 b, .int .i64 via] 39)).heap[W.heap.size]? = some (SpObj ⟨i, head, c, m⟩) := (Below.heap_alloc _ _ _ (by simp)).trans (MapKept.heap_alloc W _).1
  have q1 : ((W.alloc (SpObj ⟨i, head, c, m⟩)).alloc (.cells #[.int .i64 3, .int .i64 head, .int .i64 rwho, .int .i64 a, .int .i64 b, .int .i64 via] 39)).heap[W.heap.size + 1]? = some (.cells #[.int .i64 3, .int .i64 head, .int .i64 rwho, .int .i64 a, .int .i64 b, .int .i64 via] 39) := by
    have := (MapKept.heap_alloc (W.alloc (SpObj ⟨i, head, c, m⟩)) (.cells #[.int .i64 3, .int .i64 head, .int .i64 rwho, .int .i64 a, .int .i64 b, .int .i64 via] 39)).1
    rw [show (W.alloc (SpObj ⟨i, head, c, m⟩)).heap.size = W.heap.size + 1 from by simp] at this
    exact this
  have HF : ∀ wD, Keeps (fun _ => False) ((W.alloc (SpObj ⟨i, head, c, m⟩)).alloc (.cells #[.int .i64 3, .int .i64 head, .int .i64 rwho, .int .i64 a, .int .i64 b, .int .i64 via] 39)) wD → wD.cell? ⟨W.heap.size, 1, none⟩ = some (.int .i64 head) ∧ wD.cell? ⟨W.heap.size, 2, none⟩ = some (.int .i64 c) ∧ wD.cell? ⟨W.heap.size, 3, none⟩ = some (.int .i64 m) ∧ wD.cell? ⟨W.heap.size + 1, 0, none⟩ = some (.int .i64 3) ∧ wD.cell? ⟨W.heap.size + 1, 1, none⟩ = some (.int .i64 head) ∧ wD.cell? ⟨W.heap.size + 1, 2, none⟩ = some (.int .i64 rwho) ∧ wD.cell? ⟨W.heap.size + 1, 3, none⟩ = some (.int .i64 a) ∧ wD.cell? ⟨W.heap.size + 1, 4, none⟩ = some (.int .i64 b) ∧ wD.cell? ⟨W.heap.size + 1, 5, none⟩ = some (.int .i64 via) ∧ Hid (Below W.heap.size W wD) := fun wD hk => by
    have e0 := (hk.block _ (lt_of_heap q0) (fun x => x)).trans q0
    have e1 := (hk.block _ (lt_of_heap q1) (fun x => x)).trans q1
    unfold SpObj at e0
    refine ⟨?_, ?_, ?_, ?_, ?_, ?_, ?_, ?_, ?_, (hk0.trans hk).below (Nat.le_refl _) (fun _ _ x => x)⟩ <;> first | (rw [cell_of_heap e0]; rfl) | (rw [cell_of_heap e1]; rfl)
  have HA : Hid (∀ wD, Keeps (fun _ => False) ((W.alloc (SpObj ⟨i, head, c, m⟩)).alloc (.cells #[.int .i64 3, .int .i64 head, .int .i64 rwho, .int .i64 a, .int .i64 b, .int .i64 via] 39)) wD → Hid (∀ wE, Keeps (fun _ => False) wD wE → wE.cell? ⟨W.heap.size, 1, none⟩ = some (.int .i64 head) ∧ wE.cell? ⟨W.heap.size, 2, none⟩ = some (.int .i64 c) ∧ wE.cell? ⟨W.heap.size, 3, none⟩ = some (.int .i64 m) ∧ wE.cell? ⟨W.heap.size + 1, 0, none⟩ = some (.int .i64 3) ∧ wE.cell? ⟨W.heap.size + 1, 1, none⟩ = some (.int .i64 head) ∧ wE.cell? ⟨W.heap.size + 1, 2, none⟩ = some (.int .i64 rwho) ∧ wE.cell? ⟨W.heap.size + 1, 3, none⟩ = some (.int .i64 a) ∧ wE.cell? ⟨W.heap.size + 1, 4, none⟩ = some (.int .i64 b) ∧ wE.cell? ⟨W.heap.size + 1, 5, none⟩ = some (.int .i64 via) ∧ Hid (Below W.heap.size W wE)) ∧ Hid (∀ wE x y, Keeps (fun _ => False) wD wE → (atF l x y).isSome = true → Calls Try.prog 15 #[.slice so hn hcp, .int .i64 x, .int .i64 y] wE fun e W' => e = .returned (.bool true) ∧ Keeps (fun _ => False) wD W')) := fun wD hk => by
    refine ⟨fun wE hk2 => HF wE (hk.trans hk2), fun wE x y hk2 hx => ?_⟩
    refine (has9_spec (hS.keeps (hk0.trans (hk.trans hk2))) hh hhc hlen x y).mono ?_
    rintro e W' ⟨rfl, hb⟩
    exact ⟨by rw [hx], hk2.trans (Keeps.of_below hb (Nat.le_refl _))⟩
  have HRR : Hid (∀ wD, Calls Try.prog 26 #[.int .i64 P, .int .i64 K, .agg #[.int .i64 3, .int .i64 head, .int .i64 rwho, .int .i64 a, .int .i64 b, .int .i64 via]] wD fun e W'' => e = .returned (.bool true) ∧ Below wD.heap.size wD W'') := fun wD => by
    rw [← hB]
    exact rr_spec wD P K ⟨3, head, rwho, a, b, via⟩
  have hiI : (i : Int) < (n : Int) := by omega
  have hcI : (c : Int) < (P : Int) := by omega
  have d1 : decide ((i : Int) < 0) = false := decide_eq_false (by omega)
  have d2 : decide (n ≤ i) = false := decide_eq_false (by omega)
  have d3 : decide ((c : Int) < 0) = false := decide_eq_false (by omega)
  have d4 : decide (P ≤ c) = false := decide_eq_false (by omega)
  have d5 : decide ((64 : Int) < (P : Int)) = false := decide_eq_false (by omega)
  have d6 : decide ((64 : Int) < (K : Int)) = false := decide_eq_false (by omega)
  have lb1 : bb < W.heap.size + 1 := by omega
  clear hR hS hcc hr hB q0 q1 hk0 HF
  go_enter Try.func16, Try.ntmps16
  go_upto_region 2 with fail
  refine (HRR.out _).mono ?_
  rintro e wD ⟨rfl, hbD⟩
  have hkD := Keeps.of_below (S := fun _ => False) hbD (Nat.le_refl _)
  obtain ⟨HF, HH⟩ := HA.out _ hkD
  obtain ⟨s1, s2, s3, r0, r1, r2, r3, r4, r5, HBW⟩ := HF.out _ (Keeps.refl _ _)
  have hkr := Keeps.refl (fun _ => False) wD
  clear hbD hkD HA HRR c0 c1 c2 c3 c4 c5
  go_wp2_with (go_at_call 15; refine (HH.out _ _ _ (by assumption) (by assumption)).mono ?_; rintro e wE ⟨rfl, hkE⟩; obtain ⟨s1, s2, s3, r0, r1, r2, r3, r4, r5, HBW⟩ := HF.out _ hkE)
  go_ret
  exact ⟨rfl, HBW.out⟩
theorem right9_k4 {W : World} {P K : Nat} {ao so : Option Addr} {n cap hn hcp : Nat} {rs : List Rl} {l : List Sp} (hR : RuleRow W ao rs) (hrs : rs.length = n) (hcap : n ≤ cap) (hS : StRow W so l) (hh : l.length = hn) (hhc : hn ≤ hcp) (hlen : hn ≤ 1000000) (hP : P ≤ 64) (hK : K ≤ 64)
    (i c m : Nat) (head rwho a b via : Int) (hr : rs[i]? = some ⟨4, head, rwho, a, b, via⟩) (hB : rightB P K ⟨4, head, rwho, a, b, via⟩ = true) (hc : c < P) (h1 : (atF l a c).isSome = true) (h2 : (atF l b c).isSome = true) :
    Calls Try.prog 16 #[.int .i64 P, .int .i64 K, .slice ao n cap, .slice so hn hcp, .agg #[.int .i64 i, .int .i64 head, .int .i64 c, .int .i64 0]] W (fun e W' => e = .returned (.bool true) ∧ Below W.heap.size W W') := by
  have hin : i < n := by
    rcases Nat.lt_or_ge i rs.length with h | h
    · omega
    · rw [List.getElem?_eq_none h] at hr; cases hr
  obtain ⟨bb, off, rfl, hbb, hcc⟩ := hR (by omega)
  obtain ⟨c0, c1, c2, c3, c4, c5⟩ := hcc i _ hr
  simp only [] at c0 c1 c2 c3 c4 c5
  have hk0 : Keeps (fun _ => False) W ((W.alloc (SpObj ⟨i, head, c, 0⟩)).alloc (.cells #[.int .i64 4, .int .i64 head, .int .i64 rwho, .int .i64 a, .int .i64 b, .int .i64 via] 39)) := ((Keeps.refl _ _).alloc _).alloc _
  have q0 : ((W.alloc (SpObj ⟨i, head, c, 0⟩)).alloc (.cells #[.int .i64 4, .int .i64 head, .int .i64 rwho, .int .i64 a, .int .i64 b, .int .i64 via] 39)).heap[W.heap.size]? = some (SpObj ⟨i, head, c, 0⟩) := (Below.heap_alloc _ _ _ (by simp)).trans (MapKept.heap_alloc W _).1
  have q1 : ((W.alloc (SpObj ⟨i, head, c, 0⟩)).alloc (.cells #[.int .i64 4, .int .i64 head, .int .i64 rwho, .int .i64 a, .int .i64 b, .int .i64 via] 39)).heap[W.heap.size + 1]? = some (.cells #[.int .i64 4, .int .i64 head, .int .i64 rwho, .int .i64 a, .int .i64 b, .int .i64 via] 39) := by
    have := (MapKept.heap_alloc (W.alloc (SpObj ⟨i, head, c, 0⟩)) (.cells #[.int .i64 4, .int .i64 head, .int .i64 rwho, .int .i64 a, .int .i64 b, .int .i64 via] 39)).1
    rw [show (W.alloc (SpObj ⟨i, head, c, 0⟩)).heap.size = W.heap.size + 1 from by simp] at this
    exact this
  have HF : ∀ wD, Keeps (fun _ => False) ((W.alloc (SpObj ⟨i, head, c, 0⟩)).alloc (.cells #[.int .i64 4, .int .i64 head, .int .i64 rwho, .int .i64 a, .int .i64 b, .int .i64 via] 39)) wD → wD.cell? ⟨W.heap.size, 1, none⟩ = some (.int .i64 head) ∧ wD.cell? ⟨W.heap.size, 2, none⟩ = some (.int .i64 c) ∧ wD.cell? ⟨W.heap.size, 3, none⟩ = some (.int .i64 0) ∧ wD.cell? ⟨W.heap.size + 1, 0, none⟩ = some (.int .i64 4) ∧ wD.cell? ⟨W.heap.size + 1, 1, none⟩ = some (.int .i64 head) ∧ wD.cell? ⟨W.heap.size + 1, 2, none⟩ = some (.int .i64 rwho) ∧ wD.cell? ⟨W.heap.size + 1, 3, none⟩ = some (.int .i64 a) ∧ wD.cell? ⟨W.heap.size + 1, 4, none⟩ = some (.int .i64 b) ∧ wD.cell? ⟨W.heap.size + 1, 5, none⟩ = some (.int .i64 via) ∧ Hid (Below W.heap.size W wD) := fun wD hk => by
    have e0 := (hk.block _ (lt_of_heap q0) (fun x => x)).trans q0
    have e1 := (hk.block _ (lt_of_heap q1) (fun x => x)).trans q1
    unfold SpObj at e0
    refine ⟨?_, ?_, ?_, ?_, ?_, ?_, ?_, ?_, ?_, (hk0.trans hk).below (Nat.le_refl _) (fun _ _ x => x)⟩ <;> first | (rw [cell_of_heap e0]; rfl) | (rw [cell_of_heap e1]; rfl)
  have HA : Hid (∀ wD, Keeps (fun _ => False) ((W.alloc (SpObj ⟨i, head, c, 0⟩)).alloc (.cells #[.int .i64 4, .int .i64 head, .int .i64 rwho, .int .i64 a, .int .i64 b, .int .i64 via] 39)) wD → Hid (∀ wE, Keeps (fun _ => False) wD wE → wE.cell? ⟨W.heap.size, 1, none⟩ = some (.int .i64 head) ∧ wE.cell? ⟨W.heap.size, 2, none⟩ = some (.int .i64 c) ∧ wE.cell? ⟨W.heap.size, 3, none⟩ = some (.int .i64 0) ∧ wE.cell? ⟨W.heap.size + 1, 0, none⟩ = some (.int .i64 4) ∧ wE.cell? ⟨W.heap.size + 1, 1, none⟩ = some (.int .i64 head) ∧ wE.cell? ⟨W.heap.size + 1, 2, none⟩ = some (.int .i64 rwho) ∧ wE.cell? ⟨W.heap.size + 1, 3, none⟩ = some (.int .i64 a) ∧ wE.cell? ⟨W.heap.size + 1, 4, none⟩ = some (.int .i64 b) ∧ wE.cell? ⟨W.heap.size + 1, 5, none⟩ = some (.int .i64 via) ∧ Hid (Below W.heap.size W wE)) ∧ Hid (∀ wE x y, Keeps (fun _ => False) wD wE → (atF l x y).isSome = true → Calls Try.prog 15 #[.slice so hn hcp, .int .i64 x, .int .i64 y] wE fun e W' => e = .returned (.bool true) ∧ Keeps (fun _ => False) wD W')) := fun wD hk => by
    refine ⟨fun wE hk2 => HF wE (hk.trans hk2), fun wE x y hk2 hx => ?_⟩
    refine (has9_spec (hS.keeps (hk0.trans (hk.trans hk2))) hh hhc hlen x y).mono ?_
    rintro e W' ⟨rfl, hb⟩
    exact ⟨by rw [hx], hk2.trans (Keeps.of_below hb (Nat.le_refl _))⟩
  have HRR : Hid (∀ wD, Calls Try.prog 26 #[.int .i64 P, .int .i64 K, .agg #[.int .i64 4, .int .i64 head, .int .i64 rwho, .int .i64 a, .int .i64 b, .int .i64 via]] wD fun e W'' => e = .returned (.bool true) ∧ Below wD.heap.size wD W'') := fun wD => by
    rw [← hB]
    exact rr_spec wD P K ⟨4, head, rwho, a, b, via⟩
  have hiI : (i : Int) < (n : Int) := by omega
  have hcI : (c : Int) < (P : Int) := by omega
  have d1 : decide ((i : Int) < 0) = false := decide_eq_false (by omega)
  have d2 : decide (n ≤ i) = false := decide_eq_false (by omega)
  have d3 : decide ((c : Int) < 0) = false := decide_eq_false (by omega)
  have d4 : decide (P ≤ c) = false := decide_eq_false (by omega)
  have d5 : decide ((64 : Int) < (P : Int)) = false := decide_eq_false (by omega)
  have d6 : decide ((64 : Int) < (K : Int)) = false := decide_eq_false (by omega)
  have lb1 : bb < W.heap.size + 1 := by omega
  clear hR hS hcc hr hB q0 q1 hk0 HF
  go_enter Try.func16, Try.ntmps16
  go_upto_region 2 with fail
  refine (HRR.out _).mono ?_
  rintro e wD ⟨rfl, hbD⟩
  have hkD := Keeps.of_below (S := fun _ => False) hbD (Nat.le_refl _)
  obtain ⟨HF, HH⟩ := HA.out _ hkD
  obtain ⟨s1, s2, s3, r0, r1, r2, r3, r4, r5, HBW⟩ := HF.out _ (Keeps.refl _ _)
  have hkr := Keeps.refl (fun _ => False) wD
  clear hbD hkD HA HRR c0 c1 c2 c3 c4 c5
  go_wp2_with (go_at_call 15; refine (HH.out _ _ _ (by assumption) (by assumption)).mono ?_; rintro e wE ⟨rfl, hkE⟩; obtain ⟨s1, s2, s3, r0, r1, r2, r3, r4, r5, HBW⟩ := HF.out _ hkE)
  go_ret
  exact ⟨rfl, HBW.out⟩
end Go.Proofs.Ytahnedkdodjomaa
