/-
  The walk of a model's Holds.
-/
import Derived.Test.YtckjgefpelnkoaaDoorSemModel
import Derived.Test.YtckjgefpelnkoaaDoorSetAsk
import Derived.Deep.RegionHeld3
import Derived.Deep.QuietTactic
set_option linter.unusedVariables false
set_option linter.unusedSimpArgs false
set_option linter.unnecessarySimpa false
namespace Go.Proofs.YtckjgefpelnkoaaDoor
open Go.ChangeShapes Go.WideShapes Go.ChangeAt Go.RowKit Go.Deep SetPlain
def hold3 (N P K : Nat) (In : Nat → Nat → Bool) (head via : Int) (x : Nat) : Bool := allIn (rowP N In ((x : Int) * K + via)) (rowP N In head) P
def hold4 (N P : Nat) (In : Nat → Nat → Bool) (head b : Int) (x : Nat) : Bool := !(hasB N P In b x && !hasB N P In head x)
/-- Does a rule hold in a model? -/
def holdsB (P K : Nat) (In : Nat → Nat → Bool) (r : Rl) : Bool :=
  rightB P K r && (if r.kind = 1 then hasB (P * K) P In r.head r.who
    else if r.kind = 2 then allIn (rowP (P * K) In r.a) (rowP (P * K) In r.head) P
    else if r.kind = 3 then (listTo (rowP (P * K) In r.a) P).all (hold3 (P * K) P K In r.head r.via)
    else (listTo (rowP (P * K) In r.a) P).all (hold4 (P * K) P In r.head r.b))
def HoldC (mo fb P K x : Nat) (r : Rl) (W : World) : Prop :=
  W.cell? ⟨mo, 0, none⟩ = some (.pointer (some ⟨fb, 0, none⟩)) ∧ W.cell? ⟨mo, 1, none⟩ = some (.int .i64 P) ∧ W.cell? ⟨mo, 2, none⟩ = some (.int .i64 K) ∧ W.cell? ⟨x, 0, none⟩ = some (.int .i64 r.kind) ∧ W.cell? ⟨x, 1, none⟩ = some (.int .i64 r.head) ∧ W.cell? ⟨x, 2, none⟩ = some (.int .i64 r.who) ∧ W.cell? ⟨x, 3, none⟩ = some (.int .i64 r.a) ∧ W.cell? ⟨x, 4, none⟩ = some (.int .i64 r.b) ∧ W.cell? ⟨x, 5, none⟩ = some (.int .i64 r.via)
/-- A model, and a rule's box. -/
structure HoldM (mo fb bw : Nat) (rb : Nat → Nat) (P K tot steps : Nat) (In : Nat → Nat → Bool) (x : Nat) (r : Rl) (W0 W : World) : Prop where
  mdl : Mdl mo fb bw rb P K tot steps In W
  rule : RlAt W x r
  keep : Keeps (fun _ => False) W0 W
  tab : TabIn W
section
variable {W W0 : World} {mo fb bw : Nat} {rb : Nat → Nat} {P K tot steps : Nat} {In : Nat → Nat → Bool} {x : Nat} {r : Rl}
theorem HoldM.quiet (h : HoldM mo fb bw rb P K tot steps In x r W0 W) {W' : World} (hk : Keeps (fun _ => False) W W') : HoldM mo fb bw rb P K tot steps In x r W0 W' := by
  obtain ⟨r0, r1, r2, r3, r4, r5⟩ := h.rule
  have hx := lt_of_cell r0
  have hc : ∀ i, W'.cell? ⟨x, i, none⟩ = W.cell? ⟨x, i, none⟩ := fun i => hk.cell (p := ⟨x, i, none⟩) hx (fun x => x)
  exact ⟨h.mdl.keeps hk, ⟨(hc 0).trans r0, (hc 1).trans r1, (hc 2).trans r2, (hc 3).trans r3, (hc 4).trans r4, (hc 5).trans r5⟩, h.keep.trans hk, h.tab.keeps hk (fun x => x)⟩
theorem HoldM.rd (h : HoldM mo fb bw rb P K tot steps In x r W0 W) : HoldC mo fb P K x r W := ⟨h.mdl.cells.1, h.mdl.cells.2.1, h.mdl.cells.2.2.1, h.rule⟩
theorem HoldM.start (h : Mdl mo fb bw rb P K tot steps In W) (hT : TabIn W) (r : Rl) : HoldM mo fb bw rb P K tot steps In W.heap.size r W (W.alloc (ruleObj r)) := by
  have hk : Keeps (fun _ => False) W (W.alloc (ruleObj r)) := (Keeps.refl _ _).alloc _
  refine ⟨h.keeps hk, ?_, hk, hT.keeps hk (fun x => x)⟩
  unfold ruleObj RlAt; refine ⟨?_, ?_, ?_, ?_, ?_, ?_⟩ <;> simp
theorem HoldM.has (h : HoldM mo fb bw rb P K tot steps In x r W0 W) (i c : Int) (hc0 : -9223372036854775808 ≤ c) (hc1 : c ≤ 9223372036854775807) :
    Calls Tryd.prog 25 #[.pointer (some ⟨fb, 0, none⟩), .int .i64 i, .int .i64 c] W fun e w' => e = .returned (.bool (hasB (P * K) P In i c)) ∧ w' = W :=
  (fhas_spec h.mdl.fam i c hc0 hc1).mono fun e w' x => ⟨x.1, x.2.symm⟩
theorem HoldM.inside (h : HoldM mo fb bw rb P K tot steps In x r W0 W) (i c : Int) :
    Calls Tryd.prog 27 #[.pointer (some ⟨fb, 0, none⟩), .int .i64 i, .int .i64 c] W fun e w' => e = .returned (.bool (allIn (rowP (P * K) In i) (rowP (P * K) In c) P)) ∧ w' = W :=
  (finside_spec h.mdl.fam i c).mono fun e w' x => ⟨x.1, x.2.symm⟩
theorem HoldM.list (h : Hid (HoldM mo fb bw rb P K tot steps In x r W0 W)) (i : Int) :
    Calls Tryd.prog 26 #[.pointer (some ⟨fb, 0, none⟩), .int .i64 i] W fun e w' => ∃ ao cap, e = .returned (.slice ao (listTo (rowP (P * K) In i) P).length cap) ∧ Hid (ReadsL w' (.slice ao (listTo (rowP (P * K) In i) P).length cap) (listTo (rowP (P * K) In i) P)) ∧ Hid (HoldM mo fb bw rb P K tot steps In x r W0 w') := by
  refine (flist_spec h.out.mdl.fam h.out.tab i).mono ?_
  rintro e w' ⟨v, rfl, hown, hb⟩
  have hr := ReadsL.of_own hown
  have hr2 := hr
  obtain ⟨ao, cap, rfl, _⟩ := hr2
  exact ⟨ao, cap, rfl, hr, h.out.quiet (Keeps.of_below hb (Nat.le_refl _))⟩
theorem HoldM.right (h : Hid (HoldM mo fb bw rb P K tot steps In x r W0 W)) : Calls Tryd.prog 21 #[.int .i64 P, .int .i64 K, .agg r.cells.toArray] W fun e w' => e = .returned (.bool (rightB P K r)) ∧ Hid (HoldM mo fb bw rb P K tot steps In x r W0 w') :=
  (right_spec W P K r).mono fun e w' ⟨he, hb⟩ => ⟨he, h.out.quiet (Keeps.of_below hb (Nat.le_refl _))⟩
theorem HoldM.below (h : HoldM mo fb bw rb P K tot steps In x r W0 W) : Below W0.heap.size W0 W := h.keep.below (Nat.le_refl _) (fun _ _ x => x)
set_option maxRecDepth 100000 in
set_option maxHeartbeats 1600000 in
theorem hold_not (h : Mdl mo fb bw rb P K tot steps In W) (hT : TabIn W) (kind head who a b via : Int) (hR : rightB P K ⟨kind, head, who, a, b, via⟩ = false) :
    Calls Tryd.prog 14 #[.pointer (some ⟨mo, 0, none⟩), .agg #[.int .i64 kind, .int .i64 head, .int .i64 who, .int .i64 a, .int .i64 b, .int .i64 via]] W (RightPost (false) W) := by
  have hs := HoldM.start h hT ⟨kind, head, who, a, b, via⟩
  unfold ruleObj at hs
  simp only [] at hs
  have HS0 : Hid (HoldM mo fb bw rb P K tot steps In W.heap.size ⟨kind, head, who, a, b, via⟩ W (W.alloc (.cells #[.int .i64 kind, .int .i64 head, .int .i64 who, .int .i64 a, .int .i64 b, .int .i64 via] 25)).drew) := hs.quiet ((Keeps.refl _ _).drew)
  have HSC : Hid (∀ W', Hid (HoldM mo fb bw rb P K tot steps In W.heap.size ⟨kind, head, who, a, b, via⟩ W W') → (fun w' => w'.cell? ⟨mo, 0, none⟩ = some (.pointer (some ⟨fb, 0, none⟩)) ∧ w'.cell? ⟨mo, 1, none⟩ = some (.int .i64 P) ∧ w'.cell? ⟨mo, 2, none⟩ = some (.int .i64 K) ∧ w'.cell? ⟨W.heap.size, 0, none⟩ = some (.int .i64 kind) ∧ w'.cell? ⟨W.heap.size, 1, none⟩ = some (.int .i64 head) ∧ w'.cell? ⟨W.heap.size, 2, none⟩ = some (.int .i64 who) ∧ w'.cell? ⟨W.heap.size, 3, none⟩ = some (.int .i64 a) ∧ w'.cell? ⟨W.heap.size, 4, none⟩ = some (.int .i64 b) ∧ w'.cell? ⟨W.heap.size, 5, none⟩ = some (.int .i64 via)) W') := fun W' h => h.out.rd
  have HRT : Hid (∀ W', Hid (HoldM mo fb bw rb P K tot steps In W.heap.size ⟨kind, head, who, a, b, via⟩ W W') → Calls Tryd.prog 21 #[.int .i64 P, .int .i64 K, .agg #[.int .i64 kind, .int .i64 head, .int .i64 who, .int .i64 a, .int .i64 b, .int .i64 via]] W' fun e w' => e = .returned (.bool false) ∧ Hid (HoldM mo fb bw rb P K tot steps In W.heap.size ⟨kind, head, who, a, b, via⟩ W w')) := fun W' h => by
    have := HoldM.right h
    rw [hR] at this
    exact this
  clear h hT hs hR
  go_enter Tryd.func14, Tryd.ntmps14
  go_upto_region 1 with fail
  go_region_held3 (fun w' => w'.cell? ⟨mo, 0, none⟩ = some (.pointer (some ⟨fb, 0, none⟩)) ∧ w'.cell? ⟨mo, 1, none⟩ = some (.int .i64 P) ∧ w'.cell? ⟨mo, 2, none⟩ = some (.int .i64 K) ∧ w'.cell? ⟨W.heap.size, 0, none⟩ = some (.int .i64 kind) ∧ w'.cell? ⟨W.heap.size, 1, none⟩ = some (.int .i64 head) ∧ w'.cell? ⟨W.heap.size, 2, none⟩ = some (.int .i64 who) ∧ w'.cell? ⟨W.heap.size, 3, none⟩ = some (.int .i64 a) ∧ w'.cell? ⟨W.heap.size, 4, none⟩ = some (.int .i64 b) ∧ w'.cell? ⟨W.heap.size, 5, none⟩ = some (.int .i64 via)) (exact HSC.out _ (by assumption)) (first | (go_at_call 21; refine (HRT.out _ (by assumption)).mono ?_; rintro e W3 ⟨rfl, h3⟩))
  obtain ⟨m0, m1, m2, q0, q1, q2, q3, q4, q5⟩ := HSC.out _ h3
  clear HRT HS0
  have HB := Lib.hid h3.out.below
  clear HSC h3
  go_wp2_with fail
  go_ret
  exact ⟨rfl, HB.out⟩
set_option maxRecDepth 100000 in
set_option maxHeartbeats 1600000 in
theorem hold_k1 (h : Mdl mo fb bw rb P K tot steps In W) (hT : TabIn W) (head who a b via : Int) (hR : rightB P K ⟨1, head, who, a, b, via⟩ = true) (hw0 : -9223372036854775808 ≤ who) (hw1 : who ≤ 9223372036854775807) (res : Bool) (hres : hasB (P * K) P In head who = res) :
    Calls Tryd.prog 14 #[.pointer (some ⟨mo, 0, none⟩), .agg #[.int .i64 1, .int .i64 head, .int .i64 who, .int .i64 a, .int .i64 b, .int .i64 via]] W (RightPost (res) W) := by
  have hs := HoldM.start h hT ⟨1, head, who, a, b, via⟩
  unfold ruleObj at hs
  simp only [] at hs
  have HS0 : Hid (HoldM mo fb bw rb P K tot steps In W.heap.size ⟨1, head, who, a, b, via⟩ W (W.alloc (.cells #[.int .i64 1, .int .i64 head, .int .i64 who, .int .i64 a, .int .i64 b, .int .i64 via] 25)).drew) := hs.quiet ((Keeps.refl _ _).drew)
  have HSC : Hid (∀ W', Hid (HoldM mo fb bw rb P K tot steps In W.heap.size ⟨1, head, who, a, b, via⟩ W W') → (fun w' => w'.cell? ⟨mo, 0, none⟩ = some (.pointer (some ⟨fb, 0, none⟩)) ∧ w'.cell? ⟨mo, 1, none⟩ = some (.int .i64 P) ∧ w'.cell? ⟨mo, 2, none⟩ = some (.int .i64 K) ∧ w'.cell? ⟨W.heap.size, 0, none⟩ = some (.int .i64 1) ∧ w'.cell? ⟨W.heap.size, 1, none⟩ = some (.int .i64 head) ∧ w'.cell? ⟨W.heap.size, 2, none⟩ = some (.int .i64 who) ∧ w'.cell? ⟨W.heap.size, 3, none⟩ = some (.int .i64 a) ∧ w'.cell? ⟨W.heap.size, 4, none⟩ = some (.int .i64 b) ∧ w'.cell? ⟨W.heap.size, 5, none⟩ = some (.int .i64 via)) W') := fun W' h => h.out.rd
  have HRT : Hid (∀ W', Hid (HoldM mo fb bw rb P K tot steps In W.heap.size ⟨1, head, who, a, b, via⟩ W W') → Calls Tryd.prog 21 #[.int .i64 P, .int .i64 K, .agg #[.int .i64 1, .int .i64 head, .int .i64 who, .int .i64 a, .int .i64 b, .int .i64 via]] W' fun e w' => e = .returned (.bool true) ∧ Hid (HoldM mo fb bw rb P K tot steps In W.heap.size ⟨1, head, who, a, b, via⟩ W w')) := fun W' h => by
    have := HoldM.right h
    rw [hR] at this
    exact this
  clear h hT hs hR
  have HRES := Lib.hid hres
  clear hres
  go_enter Tryd.func14, Tryd.ntmps14
  go_upto_region 1 with fail
  go_region_held3 (fun w' => w'.cell? ⟨mo, 0, none⟩ = some (.pointer (some ⟨fb, 0, none⟩)) ∧ w'.cell? ⟨mo, 1, none⟩ = some (.int .i64 P) ∧ w'.cell? ⟨mo, 2, none⟩ = some (.int .i64 K) ∧ w'.cell? ⟨W.heap.size, 0, none⟩ = some (.int .i64 1) ∧ w'.cell? ⟨W.heap.size, 1, none⟩ = some (.int .i64 head) ∧ w'.cell? ⟨W.heap.size, 2, none⟩ = some (.int .i64 who) ∧ w'.cell? ⟨W.heap.size, 3, none⟩ = some (.int .i64 a) ∧ w'.cell? ⟨W.heap.size, 4, none⟩ = some (.int .i64 b) ∧ w'.cell? ⟨W.heap.size, 5, none⟩ = some (.int .i64 via)) (exact HSC.out _ (by assumption)) (first | (go_at_call 21; refine (HRT.out _ (by assumption)).mono ?_; rintro e W3 ⟨rfl, h3⟩))
  obtain ⟨m0, m1, m2, q0, q1, q2, q3, q4, q5⟩ := HSC.out _ h3
  clear HRT HS0
  have HQ : Hid (∀ n, Calls Tryd.prog 25 #[.pointer (some ⟨fb, 0, none⟩), .int .i64 head, .int .i64 who] (W3.drewN n) fun e w' => e = .returned (.bool (hasB (P * K) P In head who)) ∧ w' = W3.drewN n) := fun n => (h3.out.quiet (Keeps.drewN (Keeps.refl _ _) n)).has head who hw0 hw1
  have HB : Hid (∀ n, Below W.heap.size W (W3.drewN n)) := fun n => (h3.out.quiet (Keeps.drewN (Keeps.refl _ _) n)).below
  clear HSC h3
  rw [HRES.out] at HQ
  go_upto_region 5 with fail
  go_quiet (first | (go_at_call 25; refine Calls.quiet_of_same (HQ.out _)))
  go_wp2_with fail
  go_ret
  exact ⟨rfl, HB.out _⟩
set_option maxRecDepth 100000 in
set_option maxHeartbeats 1600000 in
theorem hold_k2 (h : Mdl mo fb bw rb P K tot steps In W) (hT : TabIn W) (head who a b via : Int) (hR : rightB P K ⟨2, head, who, a, b, via⟩ = true) (res : Bool) (hres : allIn (rowP (P * K) In a) (rowP (P * K) In head) P = res) :
    Calls Tryd.prog 14 #[.pointer (some ⟨mo, 0, none⟩), .agg #[.int .i64 2, .int .i64 head, .int .i64 who, .int .i64 a, .int .i64 b, .int .i64 via]] W (RightPost (res) W) := by
  have hs := HoldM.start h hT ⟨2, head, who, a, b, via⟩
  unfold ruleObj at hs
  simp only [] at hs
  have HS0 : Hid (HoldM mo fb bw rb P K tot steps In W.heap.size ⟨2, head, who, a, b, via⟩ W (W.alloc (.cells #[.int .i64 2, .int .i64 head, .int .i64 who, .int .i64 a, .int .i64 b, .int .i64 via] 25)).drew) := hs.quiet ((Keeps.refl _ _).drew)
  have HSC : Hid (∀ W', Hid (HoldM mo fb bw rb P K tot steps In W.heap.size ⟨2, head, who, a, b, via⟩ W W') → (fun w' => w'.cell? ⟨mo, 0, none⟩ = some (.pointer (some ⟨fb, 0, none⟩)) ∧ w'.cell? ⟨mo, 1, none⟩ = some (.int .i64 P) ∧ w'.cell? ⟨mo, 2, none⟩ = some (.int .i64 K) ∧ w'.cell? ⟨W.heap.size, 0, none⟩ = some (.int .i64 2) ∧ w'.cell? ⟨W.heap.size, 1, none⟩ = some (.int .i64 head) ∧ w'.cell? ⟨W.heap.size, 2, none⟩ = some (.int .i64 who) ∧ w'.cell? ⟨W.heap.size, 3, none⟩ = some (.int .i64 a) ∧ w'.cell? ⟨W.heap.size, 4, none⟩ = some (.int .i64 b) ∧ w'.cell? ⟨W.heap.size, 5, none⟩ = some (.int .i64 via)) W') := fun W' h => h.out.rd
  have HRT : Hid (∀ W', Hid (HoldM mo fb bw rb P K tot steps In W.heap.size ⟨2, head, who, a, b, via⟩ W W') → Calls Tryd.prog 21 #[.int .i64 P, .int .i64 K, .agg #[.int .i64 2, .int .i64 head, .int .i64 who, .int .i64 a, .int .i64 b, .int .i64 via]] W' fun e w' => e = .returned (.bool true) ∧ Hid (HoldM mo fb bw rb P K tot steps In W.heap.size ⟨2, head, who, a, b, via⟩ W w')) := fun W' h => by
    have := HoldM.right h
    rw [hR] at this
    exact this
  clear h hT hs hR
  have HRES := Lib.hid hres
  clear hres
  go_enter Tryd.func14, Tryd.ntmps14
  go_upto_region 1 with fail
  go_region_held3 (fun w' => w'.cell? ⟨mo, 0, none⟩ = some (.pointer (some ⟨fb, 0, none⟩)) ∧ w'.cell? ⟨mo, 1, none⟩ = some (.int .i64 P) ∧ w'.cell? ⟨mo, 2, none⟩ = some (.int .i64 K) ∧ w'.cell? ⟨W.heap.size, 0, none⟩ = some (.int .i64 2) ∧ w'.cell? ⟨W.heap.size, 1, none⟩ = some (.int .i64 head) ∧ w'.cell? ⟨W.heap.size, 2, none⟩ = some (.int .i64 who) ∧ w'.cell? ⟨W.heap.size, 3, none⟩ = some (.int .i64 a) ∧ w'.cell? ⟨W.heap.size, 4, none⟩ = some (.int .i64 b) ∧ w'.cell? ⟨W.heap.size, 5, none⟩ = some (.int .i64 via)) (exact HSC.out _ (by assumption)) (first | (go_at_call 21; refine (HRT.out _ (by assumption)).mono ?_; rintro e W3 ⟨rfl, h3⟩))
  obtain ⟨m0, m1, m2, q0, q1, q2, q3, q4, q5⟩ := HSC.out _ h3
  clear HRT HS0
  have HQ : Hid (∀ n, Calls Tryd.prog 27 #[.pointer (some ⟨fb, 0, none⟩), .int .i64 a, .int .i64 head] (W3.drewN n) fun e w' => e = .returned (.bool (allIn (rowP (P * K) In a) (rowP (P * K) In head) P)) ∧ w' = W3.drewN n) := fun n => (h3.out.quiet (Keeps.drewN (Keeps.refl _ _) n)).inside a head
  have HB : Hid (∀ n, Below W.heap.size W (W3.drewN n)) := fun n => (h3.out.quiet (Keeps.drewN (Keeps.refl _ _) n)).below
  clear HSC h3
  rw [HRES.out] at HQ
  go_upto_region 7 with fail
  go_quiet (first | (go_at_call 27; refine Calls.quiet_of_same (HQ.out _)))
  go_wp2_with fail
  go_ret
  exact ⟨rfl, HB.out _⟩
set_option maxRecDepth 100000 in
set_option maxHeartbeats 1600000 in
theorem hold_k3 (h : Mdl mo fb bw rb P K tot steps In W) (hT : TabIn W) (head who a b via : Int) (hR : rightB P K ⟨3, head, who, a, b, via⟩ = true) (hP : P ≤ 64) (hK : K ≤ 64) (hv0 : 0 ≤ via) (hv1 : via < K) (l : List Nat) (hl : listTo (rowP (P * K) In a) P = l) :
    Calls Tryd.prog 14 #[.pointer (some ⟨mo, 0, none⟩), .agg #[.int .i64 3, .int .i64 head, .int .i64 who, .int .i64 a, .int .i64 b, .int .i64 via]] W (RightPost (l.all (hold3 (P * K) P K In head via)) W) := by
  have hs := HoldM.start h hT ⟨3, head, who, a, b, via⟩
  unfold ruleObj at hs
  simp only [] at hs
  have HS0 : Hid (HoldM mo fb bw rb P K tot steps In W.heap.size ⟨3, head, who, a, b, via⟩ W (W.alloc (.cells #[.int .i64 3, .int .i64 head, .int .i64 who, .int .i64 a, .int .i64 b, .int .i64 via] 25)).drew) := hs.quiet ((Keeps.refl _ _).drew)
  have HSC : Hid (∀ W', Hid (HoldM mo fb bw rb P K tot steps In W.heap.size ⟨3, head, who, a, b, via⟩ W W') → (fun w' => w'.cell? ⟨mo, 0, none⟩ = some (.pointer (some ⟨fb, 0, none⟩)) ∧ w'.cell? ⟨mo, 1, none⟩ = some (.int .i64 P) ∧ w'.cell? ⟨mo, 2, none⟩ = some (.int .i64 K) ∧ w'.cell? ⟨W.heap.size, 0, none⟩ = some (.int .i64 3) ∧ w'.cell? ⟨W.heap.size, 1, none⟩ = some (.int .i64 head) ∧ w'.cell? ⟨W.heap.size, 2, none⟩ = some (.int .i64 who) ∧ w'.cell? ⟨W.heap.size, 3, none⟩ = some (.int .i64 a) ∧ w'.cell? ⟨W.heap.size, 4, none⟩ = some (.int .i64 b) ∧ w'.cell? ⟨W.heap.size, 5, none⟩ = some (.int .i64 via)) W') := fun W' h => h.out.rd
  have HRT : Hid (∀ W', Hid (HoldM mo fb bw rb P K tot steps In W.heap.size ⟨3, head, who, a, b, via⟩ W W') → Calls Tryd.prog 21 #[.int .i64 P, .int .i64 K, .agg #[.int .i64 3, .int .i64 head, .int .i64 who, .int .i64 a, .int .i64 b, .int .i64 via]] W' fun e w' => e = .returned (.bool true) ∧ Hid (HoldM mo fb bw rb P K tot steps In W.heap.size ⟨3, head, who, a, b, via⟩ W w')) := fun W' h => by
    have := HoldM.right h
    rw [hR] at this
    exact this
  clear h hT hs hR
  have HRES := Lib.hid hl
  clear hl
  go_enter Tryd.func14, Tryd.ntmps14
  go_upto_region 1 with fail
  go_region_held3 (fun w' => w'.cell? ⟨mo, 0, none⟩ = some (.pointer (some ⟨fb, 0, none⟩)) ∧ w'.cell? ⟨mo, 1, none⟩ = some (.int .i64 P) ∧ w'.cell? ⟨mo, 2, none⟩ = some (.int .i64 K) ∧ w'.cell? ⟨W.heap.size, 0, none⟩ = some (.int .i64 3) ∧ w'.cell? ⟨W.heap.size, 1, none⟩ = some (.int .i64 head) ∧ w'.cell? ⟨W.heap.size, 2, none⟩ = some (.int .i64 who) ∧ w'.cell? ⟨W.heap.size, 3, none⟩ = some (.int .i64 a) ∧ w'.cell? ⟨W.heap.size, 4, none⟩ = some (.int .i64 b) ∧ w'.cell? ⟨W.heap.size, 5, none⟩ = some (.int .i64 via)) (exact HSC.out _ (by assumption)) (first | (go_at_call 21; refine (HRT.out _ (by assumption)).mono ?_; rintro e W3 ⟨rfl, h3⟩))
  obtain ⟨m0, m1, m2, q0, q1, q2, q3, q4, q5⟩ := HSC.out _ h3
  clear HRT HS0
  have HD : Hid (HoldM mo fb bw rb P K tot steps In W.heap.size ⟨3, head, who, a, b, via⟩ W W3.drew) := h3.out.quiet ((Keeps.refl _ _).drew)
  have HL : Hid (∀ W', Hid (HoldM mo fb bw rb P K tot steps In W.heap.size ⟨3, head, who, a, b, via⟩ W W') → Calls Tryd.prog 26 #[.pointer (some ⟨fb, 0, none⟩), .int .i64 a] W' fun e w' => ∃ ao cap, e = .returned (.slice ao (listTo (rowP (P * K) In a) P).length cap) ∧ Hid (ReadsL w' (.slice ao (listTo (rowP (P * K) In a) P).length cap) (listTo (rowP (P * K) In a) P)) ∧ Hid (HoldM mo fb bw rb P K tot steps In W.heap.size ⟨3, head, who, a, b, via⟩ W w')) := fun W' h => HoldM.list h a
  have hlt : ∀ y, y ∈ listTo (rowP (P * K) In a) P → y < P := fun y hy => (listTo_lt _ _ _ hy).1
  have hll : (listTo (rowP (P * K) In a) P).length ≤ 64 := by rw [listTo_len]; exact Nat.le_trans (cnt_le _ _) hP
  clear h3
  rw [HRES.out] at HL hlt hll
  have HLT := Lib.hid hlt
  clear hlt
  go_upto_region 9 with fail
  go_region_held3 (fun w' => w'.cell? ⟨mo, 0, none⟩ = some (.pointer (some ⟨fb, 0, none⟩)) ∧ w'.cell? ⟨mo, 1, none⟩ = some (.int .i64 P) ∧ w'.cell? ⟨mo, 2, none⟩ = some (.int .i64 K) ∧ w'.cell? ⟨W.heap.size, 0, none⟩ = some (.int .i64 3) ∧ w'.cell? ⟨W.heap.size, 1, none⟩ = some (.int .i64 head) ∧ w'.cell? ⟨W.heap.size, 2, none⟩ = some (.int .i64 who) ∧ w'.cell? ⟨W.heap.size, 3, none⟩ = some (.int .i64 a) ∧ w'.cell? ⟨W.heap.size, 4, none⟩ = some (.int .i64 b) ∧ w'.cell? ⟨W.heap.size, 5, none⟩ = some (.int .i64 via)) (exact HSC.out _ (by assumption)) (first | (go_at_call 26; refine (HL.out _ (by assumption)).mono ?_; rintro e W4 ⟨aoL, capL, rfl, hrl, h4⟩))
  obtain ⟨ao5, cap5, he5, hle5, _, hcells⟩ := hrl.out
  cases he5
  have HCE := Lib.hid hcells
  clear hrl hcells HL HD m0 m1 m2 q0 q1 q2 q3 q4 q5
  go_wp2_with fail
  go_loopg [58] l.length (fun g t wy => ∃ j : Nat, j ≤ l.length ∧ g = l.length - j ∧ t = .int .i64 j ∧ Hid (Keeps (fun _ => False) W4 wy) ∧ Hid (∀ y, y ∈ l.take j → hold3 (P * K) P K In head via y = true))
  case atStart => exact ⟨0, Nat.zero_le _, rfl, rfl, Keeps.refl _ _, fun y hy => (by cases hy)⟩
  case round =>
    obtain ⟨j, hj, rfl, rfl, hk, hall⟩ := hrel
    have h5 : Hid (HoldM mo fb bw rb P K tot steps In W.heap.size ⟨3, head, who, a, b, via⟩ W wr) := h4.out.quiet hk.out
    obtain ⟨m0, m1, m2, q0, q1, q2, q3, q4, q5⟩ := HSC.out _ h5
    by_cases hlt : j < l.length
    · obtain ⟨y, hy⟩ : ∃ y, l[j]? = some y := ⟨_, List.getElem?_eq_getElem hlt⟩
      obtain ⟨g5, rfl, hg5, hc5⟩ := HCE.out (by omega)
      have hcy := (hk.out.cell (p := ⟨g5, j, none⟩) hg5 (fun x => x)).trans (hc5 j y hy)
      have hjI : (j : Int) < (l.length : Int) := by omega
      have hmem := List.mem_of_getElem? hy
      have hyP := HLT.out y hmem
      have hnext : hold3 (P * K) P K In head via y = true → ∀ u, u ∈ l.take (j + 1) → hold3 (P * K) P K In head via u = true := fun h u hu => by
        rw [List.take_add_one, hy] at hu
        rcases List.mem_append.1 hu with hu | hu
        · exact hall.out u hu
        · simp only [Option.toList_some, List.mem_singleton] at hu
          rw [hu]; exact h
      have HNX := Lib.hid hnext
      have HMEM := Lib.hid hmem
      clear hnext hmem hc5 hy
      obtain ⟨z, hz⟩ : ∃ z, y * K = z := ⟨_, rfl⟩
      have hzl : z ≤ 64 * 64 := by rw [← hz]; exact Nat.mul_le_mul (by omega) hK
      have hw1 : IntKind.i64.wrap ((y : Int) * (K : Int)) = (z : Int) := by
        have : (y : Int) * (K : Int) = (z : Int) := by rw [← hz]; simp
        rw [this]; exact IntWalk.i64_in _ (by omega)
      obtain ⟨i, hi⟩ : ∃ i : Int, (z : Int) + via = i := ⟨_, rfl⟩
      have hw2 : IntKind.i64.wrap ((z : Int) + via) = i := by rw [hi]; exact IntWalk.i64_in _ (by omega)
      have hval : hold3 (P * K) P K In head via y = allIn (rowP (P * K) In i) (rowP (P * K) In head) P := by unfold hold3; rw [← hi, ← hz]; simp
      have HQ : Hid (∀ n, Calls Tryd.prog 27 #[.pointer (some ⟨fb, 0, none⟩), .int .i64 i, .int .i64 head] (wr.drewN n) fun e w' => e = .returned (.bool (hold3 (P * K) P K In head via y)) ∧ w' = wr.drewN n) := fun n => by
        rw [hval]; exact (h5.out.quiet (Keeps.drewN (Keeps.refl _ _) n)).inside i head
      cases hh3 : hold3 (P * K) P K In head via y with
      | true =>
        rw [hh3] at HQ
        go_upto_region 12 with fail
        go_quiet (first | (go_at_call 27; refine Calls.quiet_of_same (HQ.out _)))
        have HN := Lib.hid (HNX.out hh3)
        clear HNX HMEM hall
        go_wp2_with fail
        go_roundg (l.length - (j + 1))
        case measure => omega
        case rel => exact ⟨j + 1, by omega, rfl, by go_num, hk.out.trans (Keeps.drewN (Keeps.refl _ _) _), HN.out⟩
      | false =>
        rw [hh3] at HQ
        go_upto_region 12 with fail
        go_quiet (first | (go_at_call 27; refine Calls.quiet_of_same (HQ.out _)))
        have hres : l.all (hold3 (P * K) P K In head via) = false := by
          cases hh : l.all (hold3 (P * K) P K In head via) with
          | false => rfl
          | true => rw [List.all_eq_true] at hh; have := hh y HMEM.out; rw [hh3] at this; cases this
        have HRS := Lib.hid hres
        have HB : Hid (∀ n, Below W.heap.size W (wr.drewN n)) := fun n => (h5.out.quiet (Keeps.drewN (Keeps.refl _ _) n)).below
        clear HNX HMEM hall hres
        go_wp2_with fail
        go_ret
        exact ⟨congrArg (fun b => Ending.returned (Value.bool b)) HRS.out.symm, HB.out _⟩
    · obtain rfl : j = l.length := by omega
      have hres : l.all (hold3 (P * K) P K In head via) = true := by
        rw [List.all_eq_true]
        intro u hu
        have := hall.out u
        rw [List.take_length] at this
        exact this hu
      have HRS := Lib.hid hres
      have HB := Lib.hid h5.out.below
      clear hall hk h5 hres HCE HLT HSC
      go_wp2_with fail
      go_ret
      exact ⟨congrArg (fun b => Ending.returned (Value.bool b)) HRS.out.symm, HB.out⟩
set_option maxRecDepth 100000 in
set_option maxHeartbeats 1600000 in
theorem hold_k4 (h : Mdl mo fb bw rb P K tot steps In W) (hT : TabIn W) (head who a b via : Int) (hR : rightB P K ⟨4, head, who, a, b, via⟩ = true) (hP : P ≤ 64) (l : List Nat) (hl : listTo (rowP (P * K) In a) P = l) :
    Calls Tryd.prog 14 #[.pointer (some ⟨mo, 0, none⟩), .agg #[.int .i64 4, .int .i64 head, .int .i64 who, .int .i64 a, .int .i64 b, .int .i64 via]] W (RightPost (l.all (hold4 (P * K) P In head b)) W) := by
  have hs := HoldM.start h hT ⟨4, head, who, a, b, via⟩
  unfold ruleObj at hs
  simp only [] at hs
  have HS0 : Hid (HoldM mo fb bw rb P K tot steps In W.heap.size ⟨4, head, who, a, b, via⟩ W (W.alloc (.cells #[.int .i64 4, .int .i64 head, .int .i64 who, .int .i64 a, .int .i64 b, .int .i64 via] 25)).drew) := hs.quiet ((Keeps.refl _ _).drew)
  have HSC : Hid (∀ W', Hid (HoldM mo fb bw rb P K tot steps In W.heap.size ⟨4, head, who, a, b, via⟩ W W') → (fun w' => w'.cell? ⟨mo, 0, none⟩ = some (.pointer (some ⟨fb, 0, none⟩)) ∧ w'.cell? ⟨mo, 1, none⟩ = some (.int .i64 P) ∧ w'.cell? ⟨mo, 2, none⟩ = some (.int .i64 K) ∧ w'.cell? ⟨W.heap.size, 0, none⟩ = some (.int .i64 4) ∧ w'.cell? ⟨W.heap.size, 1, none⟩ = some (.int .i64 head) ∧ w'.cell? ⟨W.heap.size, 2, none⟩ = some (.int .i64 who) ∧ w'.cell? ⟨W.heap.size, 3, none⟩ = some (.int .i64 a) ∧ w'.cell? ⟨W.heap.size, 4, none⟩ = some (.int .i64 b) ∧ w'.cell? ⟨W.heap.size, 5, none⟩ = some (.int .i64 via)) W') := fun W' h => h.out.rd
  have HRT : Hid (∀ W', Hid (HoldM mo fb bw rb P K tot steps In W.heap.size ⟨4, head, who, a, b, via⟩ W W') → Calls Tryd.prog 21 #[.int .i64 P, .int .i64 K, .agg #[.int .i64 4, .int .i64 head, .int .i64 who, .int .i64 a, .int .i64 b, .int .i64 via]] W' fun e w' => e = .returned (.bool true) ∧ Hid (HoldM mo fb bw rb P K tot steps In W.heap.size ⟨4, head, who, a, b, via⟩ W w')) := fun W' h => by
    have := HoldM.right h
    rw [hR] at this
    exact this
  clear h hT hs hR
  have HRES := Lib.hid hl
  clear hl
  go_enter Tryd.func14, Tryd.ntmps14
  go_upto_region 1 with fail
  go_region_held3 (fun w' => w'.cell? ⟨mo, 0, none⟩ = some (.pointer (some ⟨fb, 0, none⟩)) ∧ w'.cell? ⟨mo, 1, none⟩ = some (.int .i64 P) ∧ w'.cell? ⟨mo, 2, none⟩ = some (.int .i64 K) ∧ w'.cell? ⟨W.heap.size, 0, none⟩ = some (.int .i64 4) ∧ w'.cell? ⟨W.heap.size, 1, none⟩ = some (.int .i64 head) ∧ w'.cell? ⟨W.heap.size, 2, none⟩ = some (.int .i64 who) ∧ w'.cell? ⟨W.heap.size, 3, none⟩ = some (.int .i64 a) ∧ w'.cell? ⟨W.heap.size, 4, none⟩ = some (.int .i64 b) ∧ w'.cell? ⟨W.heap.size, 5, none⟩ = some (.int .i64 via)) (exact HSC.out _ (by assumption)) (first | (go_at_call 21; refine (HRT.out _ (by assumption)).mono ?_; rintro e W3 ⟨rfl, h3⟩))
  obtain ⟨m0, m1, m2, q0, q1, q2, q3, q4, q5⟩ := HSC.out _ h3
  clear HRT HS0
  have HD : Hid (HoldM mo fb bw rb P K tot steps In W.heap.size ⟨4, head, who, a, b, via⟩ W W3.drew) := h3.out.quiet ((Keeps.refl _ _).drew)
  have HL : Hid (∀ W', Hid (HoldM mo fb bw rb P K tot steps In W.heap.size ⟨4, head, who, a, b, via⟩ W W') → Calls Tryd.prog 26 #[.pointer (some ⟨fb, 0, none⟩), .int .i64 a] W' fun e w' => ∃ ao cap, e = .returned (.slice ao (listTo (rowP (P * K) In a) P).length cap) ∧ Hid (ReadsL w' (.slice ao (listTo (rowP (P * K) In a) P).length cap) (listTo (rowP (P * K) In a) P)) ∧ Hid (HoldM mo fb bw rb P K tot steps In W.heap.size ⟨4, head, who, a, b, via⟩ W w')) := fun W' h => HoldM.list h a
  have hlt : ∀ y, y ∈ listTo (rowP (P * K) In a) P → y < P := fun y hy => (listTo_lt _ _ _ hy).1
  have hll : (listTo (rowP (P * K) In a) P).length ≤ 64 := by rw [listTo_len]; exact Nat.le_trans (cnt_le _ _) hP
  clear h3
  rw [HRES.out] at HL hlt hll
  have HLT := Lib.hid hlt
  clear hlt
  go_upto_region 16 with fail
  go_region_held3 (fun w' => w'.cell? ⟨mo, 0, none⟩ = some (.pointer (some ⟨fb, 0, none⟩)) ∧ w'.cell? ⟨mo, 1, none⟩ = some (.int .i64 P) ∧ w'.cell? ⟨mo, 2, none⟩ = some (.int .i64 K) ∧ w'.cell? ⟨W.heap.size, 0, none⟩ = some (.int .i64 4) ∧ w'.cell? ⟨W.heap.size, 1, none⟩ = some (.int .i64 head) ∧ w'.cell? ⟨W.heap.size, 2, none⟩ = some (.int .i64 who) ∧ w'.cell? ⟨W.heap.size, 3, none⟩ = some (.int .i64 a) ∧ w'.cell? ⟨W.heap.size, 4, none⟩ = some (.int .i64 b) ∧ w'.cell? ⟨W.heap.size, 5, none⟩ = some (.int .i64 via)) (exact HSC.out _ (by assumption)) (first | (go_at_call 26; refine (HL.out _ (by assumption)).mono ?_; rintro e W4 ⟨aoL, capL, rfl, hrl, h4⟩))
  obtain ⟨ao5, cap5, he5, hle5, _, hcells⟩ := hrl.out
  cases he5
  have HCE := Lib.hid hcells
  clear hrl hcells HL HD m0 m1 m2 q0 q1 q2 q3 q4 q5
  go_wp2_with fail
  go_loopg [88] l.length (fun g t wy => ∃ j : Nat, j ≤ l.length ∧ g = l.length - j ∧ t = .int .i64 j ∧ Hid (Keeps (fun _ => False) W4 wy) ∧ Hid (∀ y, y ∈ l.take j → hold4 (P * K) P In head b y = true))
  case atStart => exact ⟨0, Nat.zero_le _, rfl, rfl, Keeps.refl _ _, fun y hy => (by cases hy)⟩
  case round =>
    obtain ⟨j, hj, rfl, rfl, hk, hall⟩ := hrel
    have h5 : Hid (HoldM mo fb bw rb P K tot steps In W.heap.size ⟨4, head, who, a, b, via⟩ W wr) := h4.out.quiet hk.out
    obtain ⟨m0, m1, m2, q0, q1, q2, q3, q4, q5⟩ := HSC.out _ h5
    by_cases hlt : j < l.length
    · obtain ⟨y, hy⟩ : ∃ y, l[j]? = some y := ⟨_, List.getElem?_eq_getElem hlt⟩
      obtain ⟨g5, rfl, hg5, hc5⟩ := HCE.out (by omega)
      have hcy := (hk.out.cell (p := ⟨g5, j, none⟩) hg5 (fun x => x)).trans (hc5 j y hy)
      have hjI : (j : Int) < (l.length : Int) := by omega
      have hmem := List.mem_of_getElem? hy
      have hyP := HLT.out y hmem
      have hnext : hold4 (P * K) P In head b y = true → ∀ u, u ∈ l.take (j + 1) → hold4 (P * K) P In head b u = true := fun h u hu => by
        rw [List.take_add_one, hy] at hu
        rcases List.mem_append.1 hu with hu | hu
        · exact hall.out u hu
        · simp only [Option.toList_some, List.mem_singleton] at hu
          rw [hu]; exact h
      have HNX := Lib.hid hnext
      have HMEM := Lib.hid hmem
      clear hnext hmem hc5 hy
      have HQ1 : Hid (∀ n, Calls Tryd.prog 25 #[.pointer (some ⟨fb, 0, none⟩), .int .i64 b, .int .i64 y] (wr.drewN n) fun e w' => e = .returned (.bool (hasB (P * K) P In b y)) ∧ w' = wr.drewN n) := fun n => (h5.out.quiet (Keeps.drewN (Keeps.refl _ _) n)).has b y (by omega) (by omega)
      have HQ2 : Hid (∀ n, Calls Tryd.prog 25 #[.pointer (some ⟨fb, 0, none⟩), .int .i64 head, .int .i64 y] (wr.drewN n) fun e w' => e = .returned (.bool (hasB (P * K) P In head y)) ∧ w' = wr.drewN n) := fun n => (h5.out.quiet (Keeps.drewN (Keeps.refl _ _) n)).has head y (by omega) (by omega)
      cases hb1 : hasB (P * K) P In b y with
      | false =>
        rw [hb1] at HQ1
        have hh4 : hold4 (P * K) P In head b y = true := by unfold hold4; rw [hb1]; rfl
        clear HQ2
        go_upto_region 19 with fail
        go_quiet (first | (go_at_call 25; refine Calls.quiet_of_same (HQ1.out _)))
        have HN := Lib.hid (HNX.out hh4)
        clear HNX HMEM hall
        go_wp2_with fail
        go_roundg (l.length - (j + 1))
        case measure => omega
        case rel => exact ⟨j + 1, by omega, rfl, by go_num, hk.out.trans (Keeps.drewN (Keeps.refl _ _) _), HN.out⟩
      | true =>
        rw [hb1] at HQ1
        cases hb2 : hasB (P * K) P In head y with
        | true =>
          rw [hb2] at HQ2
          have hh4 : hold4 (P * K) P In head b y = true := by unfold hold4; rw [hb1, hb2]; rfl
          go_upto_region 19 with fail
          go_quiet (first | (go_at_call_of 25 (Value.int .i64 b); refine Calls.quiet_of_same (HQ1.out _)) | (go_at_call_of 25 (Value.int .i64 head); refine Calls.quiet_of_same (HQ2.out _)))
          have HN := Lib.hid (HNX.out hh4)
          clear HNX HMEM hall
          go_wp2_with fail
          go_roundg (l.length - (j + 1))
          case measure => omega
          case rel => exact ⟨j + 1, by omega, rfl, by go_num, hk.out.trans (Keeps.drewN (Keeps.refl _ _) _), HN.out⟩
        | false =>
          rw [hb2] at HQ2
          have hh4 : hold4 (P * K) P In head b y = false := by unfold hold4; rw [hb1, hb2]; rfl
          go_upto_region 19 with fail
          go_quiet (first | (go_at_call_of 25 (Value.int .i64 b); refine Calls.quiet_of_same (HQ1.out _)) | (go_at_call_of 25 (Value.int .i64 head); refine Calls.quiet_of_same (HQ2.out _)))
          have hres : l.all (hold4 (P * K) P In head b) = false := by
            cases hh : l.all (hold4 (P * K) P In head b) with
            | false => rfl
            | true => rw [List.all_eq_true] at hh; have := hh y HMEM.out; rw [hh4] at this; cases this
          have HRS := Lib.hid hres
          have HB : Hid (∀ n, Below W.heap.size W (wr.drewN n)) := fun n => (h5.out.quiet (Keeps.drewN (Keeps.refl _ _) n)).below
          clear HNX HMEM hall hres
          go_wp2_with fail
          go_ret
          exact ⟨congrArg (fun b => Ending.returned (Value.bool b)) HRS.out.symm, HB.out _⟩
    · obtain rfl : j = l.length := by omega
      have hres : l.all (hold4 (P * K) P In head b) = true := by
        rw [List.all_eq_true]
        intro u hu
        have := hall.out u
        rw [List.take_length] at this
        exact this hu
      have HRS := Lib.hid hres
      have HB := Lib.hid h5.out.below
      clear hall hk h5 hres HCE HLT HSC
      go_wp2_with fail
      go_ret
      exact ⟨congrArg (fun b => Ending.returned (Value.bool b)) HRS.out.symm, HB.out⟩
end
theorem hold_spec {W : World} {mo fb bw : Nat} {rb : Nat → Nat} {P K tot steps : Nat} {In : Nat → Nat → Bool} (h : Mdl mo fb bw rb P K tot steps In W) (hT : TabIn W) (hP : P ≤ 64) (hK : K ≤ 64) (r : Rl) (hw : I64 r.who) :
    Calls Tryd.prog 14 #[.pointer (some ⟨mo, 0, none⟩), .agg r.cells.toArray] W (RightPost (holdsB P K In r) W) := by
  obtain ⟨kind, head, who, a, b, via⟩ := r
  show Calls Tryd.prog 14 #[.pointer (some ⟨mo, 0, none⟩), .agg #[.int .i64 kind, .int .i64 head, .int .i64 who, .int .i64 a, .int .i64 b, .int .i64 via]] W _
  unfold holdsB
  cases hR : rightB P K ⟨kind, head, who, a, b, via⟩ with
  | false => rw [Bool.false_and]; exact hold_not h hT kind head who a b via hR
  | true =>
    rw [Bool.true_and]
    obtain ⟨_, hcase⟩ := right_iff hR
    simp only [] at hcase
    rcases hcase with ⟨k1, _⟩ | ⟨k2, _⟩ | ⟨k3, _, _, hv0, hv1⟩ | ⟨k4, _⟩
    · subst k1
      exact hold_k1 h hT head who a b via hR hw.1 hw.2 _ rfl
    · subst k2
      exact hold_k2 h hT head who a b via hR _ rfl
    · subst k3
      exact hold_k3 h hT head who a b via hR hP hK hv0 hv1 _ rfl
    · subst k4
      exact hold_k4 h hT head who a b via hR hP _ rfl
end Go.Proofs.YtckjgefpelnkoaaDoor
