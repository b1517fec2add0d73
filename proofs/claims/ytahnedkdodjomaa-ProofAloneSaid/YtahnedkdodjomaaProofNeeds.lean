/-
  What a step stands on.
-/
import Derived.Test.YtahnedkdodjomaaProofRule
import Derived.Deep.QuietTactic
import Derived.BigQuiet
import Derived.BigRegion
set_option linter.unusedVariables false
set_option linter.unusedSimpArgs false
set_option linter.unnecessarySimpa false
namespace Go.Proofs.Ytahnedkdodjomaa
open Go.ChangeShapes Go.WideShapes Go.ChangeAt Go.RowKit Go.Deep SetPlain
/-- What a step of a rule stands on; false: it can't be right. -/
def needsR (p k : Int) (r : Rl) (ok : Bool) (s : Sp) : List (Int × Int) × Bool :=
  if ok = false ∨ r.head ≠ s.role ∨ s.who < 0 ∨ p ≤ s.who ∨ (r.kind ≠ 3 ∧ s.mid ≠ 0) then ([], false)
  else if r.kind = 1 then ([], decide (r.who = s.who))
  else if r.kind = 2 then ([(r.a, s.who)], true)
  else if r.kind = 4 then ([(r.a, s.who), (r.b, s.who)], true)
  else ([(r.a, s.mid), (IntKind.i64.wrap (IntKind.i64.wrap (s.mid * k) + r.via), s.who)], decide (0 ≤ s.mid ∧ s.mid < p))
def needsL (p k : Int) (rs : List Rl) (s : Sp) : List (Int × Int) × Bool := needsR p k (ruleAt p k rs s.rule).1 (ruleAt p k rs s.rule).2 s
/-- A slice of facts in memory. -/
def FcRow (w : World) (ao : Option Addr) (l : List (Int × Int)) : Prop :=
  0 < l.length → ∃ b, ao = some ⟨b, 0, none⟩ ∧ b < w.heap.size ∧ ∀ (i : Nat) (f : Int × Int), l[i]? = some f → w.cell? ⟨b, 0 + i * 2, none⟩ = some (.int .i64 f.1) ∧ w.cell? ⟨b, 0 + i * 2 + 1, none⟩ = some (.int .i64 f.2)
theorem FcRow.keeps {w w' : World} {ao : Option Addr} {l : List (Int × Int)} (h : FcRow w ao l) (hk : Keeps (fun _ => False) w w') : FcRow w' ao l := fun h0 => by
  obtain ⟨b, rfl, hlt, hc⟩ := h h0
  have e : ∀ j, w'.cell? ⟨b, j, none⟩ = w.cell? ⟨b, j, none⟩ := fun j => hk.cell (p := ⟨b, j, none⟩) hlt (fun x => x)
  exact ⟨b, rfl, Nat.lt_of_lt_of_le hlt hk.size, fun i f hf => ⟨(e _).trans (hc i f hf).1, (e _).trans (hc i f hf).2⟩⟩
def NeedsPost (x : List (Int × Int) × Bool) (W : World) (e : Ending) (W' : World) : Prop :=
  ∃ fo c, e = .returned (.tuple #[.slice fo x.1.length c, .bool x.2]) ∧ x.1.length ≤ c ∧ Hid (FcRow W' fo x.1) ∧ Below W.heap.size W W'
theorem needsR_no {p k : Int} {r : Rl} {ok : Bool} {s : Sp} (h : ok = false ∨ r.head ≠ s.role ∨ s.who < 0 ∨ p ≤ s.who ∨ (r.kind ≠ 3 ∧ s.mid ≠ 0)) : needsR p k r ok s = ([], false) := by unfold needsR; rw [if_pos h]
theorem needs_nil {W W' : World} {b : Bool} (hb : Below W.heap.size W W') : NeedsPost ([], b) W (.returned (.tuple #[.slice none 0 0, .bool b])) W' := ⟨none, 0, rfl, Nat.le_refl _, fun h => absurd h (Nat.lt_irrefl _), hb⟩
theorem needs_one {W w1 w' : World} (f : Int × Int) {x : Nat} (hb : Below W.heap.size W w1) (hx : w1.heap.size = x) (hw : w' = w1.alloc (.cells #[.int .i64 f.1, .int .i64 f.2] 57) := by rfl) : NeedsPost ([f], true) W (.returned (.tuple #[.slice (some ⟨x, 0, none⟩) 1 1, .bool true])) w' := by
  subst hx; subst hw
  refine ⟨some ⟨w1.heap.size, 0, none⟩, 1, rfl, Nat.le_refl _, fun _ => ⟨w1.heap.size, rfl, by simp, fun i g hg => ?_⟩, hb.trans (((Keeps.refl (fun _ => False) _).alloc _).below hb.size (fun _ _ x => x))⟩
  match i, hg with
  | 0, hg => simp only [List.getElem?_cons_zero, Option.some.injEq] at hg; subst hg; simp
theorem needs_two {W w1 w' : World} (f g : Int × Int) {v : Bool} {x : Nat} (hb : Below W.heap.size W w1) (hx : w1.heap.size = x) (hw : w' = w1.alloc (.cells #[.int .i64 f.1, .int .i64 f.2, .int .i64 g.1, .int .i64 g.2] 57) := by rfl) : NeedsPost ([f, g], v) W (.returned (.tuple #[.slice (some ⟨x, 0, none⟩) 2 2, .bool v])) w' := by
  subst hx; subst hw
  refine ⟨some ⟨w1.heap.size, 0, none⟩, 2, rfl, Nat.le_refl _, fun _ => ⟨w1.heap.size, rfl, by simp, fun i u hg => ?_⟩, hb.trans (((Keeps.refl (fun _ => False) _).alloc _).below hb.size (fun _ _ x => x))⟩
  match i, hg with
  | 0, hg => simp only [List.getElem?_cons_zero, Option.some.injEq] at hg; subst hg; simp
  | 1, hg => simp only [List.getElem?_cons_zero, List.getElem?_cons_succ, Option.some.injEq] at hg; subst hg; simp
theorem link_cells {w : World} {y0 y1 y2 y3 y4 y5 : Value} {z0 z1 z2 : Nat}
    (h : w.cell? ⟨z0, 0, none⟩ = some y0 ∧ w.cell? ⟨z0, 1, none⟩ = some y1 ∧ w.cell? ⟨z1, 2, none⟩ = some y2 ∧ w.cell? ⟨z1, 3, none⟩ = some y3 ∧ w.cell? ⟨z2, 3, none⟩ = some y4 ∧ w.cell? ⟨z2, 5, none⟩ = some y5) (o : Obj) :
    (w.alloc o).cell? ⟨z0, 0, none⟩ = some y0 ∧ (w.alloc o).cell? ⟨z0, 1, none⟩ = some y1 ∧ (w.alloc o).cell? ⟨z1, 2, none⟩ = some y2 ∧ (w.alloc o).cell? ⟨z1, 3, none⟩ = some y3 ∧ (w.alloc o).cell? ⟨z2, 3, none⟩ = some y4 ∧ (w.alloc o).cell? ⟨z2, 5, none⟩ = some y5 := by
  obtain ⟨h0, h1, h2, h3, h4, h5⟩ := h
  exact ⟨(World.cell?_alloc_past _ _ _ (lt_of_cell h0)).trans h0, (World.cell?_alloc_past _ _ _ (lt_of_cell h1)).trans h1, (World.cell?_alloc_past _ _ _ (lt_of_cell h2)).trans h2, (World.cell?_alloc_past _ _ _ (lt_of_cell h3)).trans h3, (World.cell?_alloc_past _ _ _ (lt_of_cell h4)).trans h4, (World.cell?_alloc_past _ _ _ (lt_of_cell h5)).trans h5⟩
def SpObj (s : Sp) : Obj := .cells #[.int .i64 s.rule, .int .i64 s.role, .int .i64 s.who, .int .i64 s.mid] 30 (0, 0)
section
variable {W : World} {kb : Nat} {p k : Int} {ao : Option Addr} {n cap mb : Nat} {vs : Value} {l : List Sp}
set_option maxRecDepth 100000
/-- Facts of a world behind the call of rule. -/
theorem needs_facts (h : KnMem W kb p k ao n cap mb vs l) (rule role who mid : Int) {wA : World} (hb : Below (W.alloc (SpObj ⟨rule, role, who, mid⟩)).heap.size (W.alloc (SpObj ⟨rule, role, who, mid⟩)) wA) :
    wA.cell? ⟨kb, 0, none⟩ = some (.int .i64 p) ∧ wA.cell? ⟨kb, 1, none⟩ = some (.int .i64 k) ∧ wA.cell? ⟨W.heap.size, 0, none⟩ = some (.int .i64 rule) ∧ wA.cell? ⟨W.heap.size, 1, none⟩ = some (.int .i64 role) ∧ wA.cell? ⟨W.heap.size, 2, none⟩ = some (.int .i64 who) ∧ wA.cell? ⟨W.heap.size, 3, none⟩ = some (.int .i64 mid) ∧ kb < wA.heap.size ∧ W.heap.size < wA.heap.size ∧ Below W.heap.size W wA := by
  have hk0 : Keeps (fun _ => False) W (W.alloc (SpObj ⟨rule, role, who, mid⟩)) := (Keeps.refl _ _).alloc _
  have hal : (W.alloc (SpObj ⟨rule, role, who, mid⟩)).heap[W.heap.size]? = some (SpObj ⟨rule, role, who, mid⟩) := (MapKept.heap_alloc W _).1
  have hk := Keeps.of_below (S := fun _ => False) hb (Nat.le_refl _)
  have hz : wA.heap[W.heap.size]? = some (SpObj ⟨rule, role, who, mid⟩) := (hk.block _ (lt_of_heap hal) (fun x => x)).trans hal
  obtain ⟨c0, c1, _⟩ := (h.quiet (hk0.trans hk)).cells
  have lk := lt_of_heap (h.quiet (hk0.trans hk)).obj
  unfold SpObj at hz
  refine ⟨c0, c1, ?_, ?_, ?_, ?_, lk, lt_of_heap hz, (hk0.trans hk).below (Nat.le_refl _) (fun _ _ x => x)⟩ <;> rw [cell_of_heap hz] <;> rfl
set_option maxHeartbeats 1600000 in
theorem needs_n1 (h : KnMem W kb p k ao n cap mb vs l) (rule role who mid kind head rwho a b via : Int) 
    (HR : Hid (∀ W', Keeps (fun _ => False) W W' → Calls Try.prog 33 #[.pointer (some ⟨kb, 0, none⟩), .int .i64 rule] W' fun e W2 => e = .returned (.tuple #[.agg #[.int .i64 kind, .int .i64 head, .int .i64 rwho, .int .i64 a, .int .i64 b, .int .i64 via], .bool false]) ∧ Below W'.heap.size W' W2)) :
    Calls Try.prog 25 #[.pointer (some ⟨kb, 0, none⟩), .agg #[.int .i64 rule, .int .i64 role, .int .i64 who, .int .i64 mid]] W (NeedsPost ([], false) W) := by
  have HA : Hid (∀ wA, Below (W.alloc (SpObj ⟨rule, role, who, mid⟩)).heap.size (W.alloc (SpObj ⟨rule, role, who, mid⟩)) wA → _) := fun wA hb => needs_facts h rule role who mid hb
  have HR2 := Lib.hid (HR.out (W.alloc (SpObj ⟨rule, role, who, mid⟩)) ((Keeps.refl _ _).alloc _))
  clear h HR
  go_enter Try.func25, Try.ntmps25
  go_upto_region 1 with fail
  go_wp2_with (go_at_call 33; refine HR2.out.mono ?_; rintro e wA ⟨rfl, hka⟩; obtain ⟨a0, a1, s0, s1, s2, s3, lk, ls, hBA⟩ := HA.out wA hka; clear hka)
  clear HA HR2
  go_quiet (fail)
  all_goals (go_wp2_with fail; refine bodyPost_ret (v := .tuple #[.slice none 0 0, .bool false]) (by simp [results, Try.results25, go_sem]) rfl (needs_nil ?_); exact (hBA.trans ((((Keeps.refl _ _).alloc _).drewN _).below hBA.size (fun _ _ x => x))))
set_option maxHeartbeats 1600000 in
theorem needs_n2 (h : KnMem W kb p k ao n cap mb vs l) (rule role who mid kind head rwho a b via : Int) (h1 : (head != role) = true)
    (HR : Hid (∀ W', Keeps (fun _ => False) W W' → Calls Try.prog 33 #[.pointer (some ⟨kb, 0, none⟩), .int .i64 rule] W' fun e W2 => e = .returned (.tuple #[.agg #[.int .i64 kind, .int .i64 head, .int .i64 rwho, .int .i64 a, .int .i64 b, .int .i64 via], .bool true]) ∧ Below W'.heap.size W' W2)) :
    Calls Try.prog 25 #[.pointer (some ⟨kb, 0, none⟩), .agg #[.int .i64 rule, .int .i64 role, .int .i64 who, .int .i64 mid]] W (NeedsPost ([], false) W) := by
  have HA : Hid (∀ wA, Below (W.alloc (SpObj ⟨rule, role, who, mid⟩)).heap.size (W.alloc (SpObj ⟨rule, role, who, mid⟩)) wA → _) := fun wA hb => needs_facts h rule role who mid hb
  have HR2 := Lib.hid (HR.out (W.alloc (SpObj ⟨rule, role, who, mid⟩)) ((Keeps.refl _ _).alloc _))
  clear h HR
  go_enter Try.func25, Try.ntmps25
  go_upto_region 1 with fail
  go_wp2_with (go_at_call 33; refine HR2.out.mono ?_; rintro e wA ⟨rfl, hka⟩; obtain ⟨a0, a1, s0, s1, s2, s3, lk, ls, hBA⟩ := HA.out wA hka; clear hka)
  clear HA HR2
  go_quiet (fail)
  all_goals (go_wp2_with fail; refine bodyPost_ret (v := .tuple #[.slice none 0 0, .bool false]) (by simp [results, Try.results25, go_sem]) rfl (needs_nil ?_); exact (hBA.trans ((((Keeps.refl _ _).alloc _).drewN _).below hBA.size (fun _ _ x => x))))
set_option maxHeartbeats 1600000 in
theorem needs_n3 (h : KnMem W kb p k ao n cap mb vs l) (rule role who mid kind rwho a b via : Int) (h2 : who < 0)
    (HR : Hid (∀ W', Keeps (fun _ => False) W W' → Calls Try.prog 33 #[.pointer (some ⟨kb, 0, none⟩), .int .i64 rule] W' fun e W2 => e = .returned (.tuple #[.agg #[.int .i64 kind, .int .i64 role, .int .i64 rwho, .int .i64 a, .int .i64 b, .int .i64 via], .bool true]) ∧ Below W'.heap.size W' W2)) :
    Calls Try.prog 25 #[.pointer (some ⟨kb, 0, none⟩), .agg #[.int .i64 rule, .int .i64 role, .int .i64 who, .int .i64 mid]] W (NeedsPost ([], false) W) := by
  have HA : Hid (∀ wA, Below (W.alloc (SpObj ⟨rule, role, who, mid⟩)).heap.size (W.alloc (SpObj ⟨rule, role, who, mid⟩)) wA → _) := fun wA hb => needs_facts h rule role who mid hb
  have HR2 := Lib.hid (HR.out (W.alloc (SpObj ⟨rule, role, who, mid⟩)) ((Keeps.refl _ _).alloc _))
  clear h HR
  go_enter Try.func25, Try.ntmps25
  go_upto_region 1 with fail
  go_wp2_with (go_at_call 33; refine HR2.out.mono ?_; rintro e wA ⟨rfl, hka⟩; obtain ⟨a0, a1, s0, s1, s2, s3, lk, ls, hBA⟩ := HA.out wA hka; clear hka)
  clear HA HR2
  go_quiet (fail)
  all_goals (go_wp2_with fail; refine bodyPost_ret (v := .tuple #[.slice none 0 0, .bool false]) (by simp [results, Try.results25, go_sem]) rfl (needs_nil ?_); exact (hBA.trans ((((Keeps.refl _ _).alloc _).drewN _).below hBA.size (fun _ _ x => x))))
set_option maxHeartbeats 1600000 in
theorem needs_n4 (h : KnMem W kb p k ao n cap mb vs l) (rule role who mid kind rwho a b via : Int) (h2 : decide (who < 0) = false) (h3 : decide (p ≤ who) = true)
    (HR : Hid (∀ W', Keeps (fun _ => False) W W' → Calls Try.prog 33 #[.pointer (some ⟨kb, 0, none⟩), .int .i64 rule] W' fun e W2 => e = .returned (.tuple #[.agg #[.int .i64 kind, .int .i64 role, .int .i64 rwho, .int .i64 a, .int .i64 b, .int .i64 via], .bool true]) ∧ Below W'.heap.size W' W2)) :
    Calls Try.prog 25 #[.pointer (some ⟨kb, 0, none⟩), .agg #[.int .i64 rule, .int .i64 role, .int .i64 who, .int .i64 mid]] W (NeedsPost ([], false) W) := by
  have HA : Hid (∀ wA, Below (W.alloc (SpObj ⟨rule, role, who, mid⟩)).heap.size (W.alloc (SpObj ⟨rule, role, who, mid⟩)) wA → _) := fun wA hb => needs_facts h rule role who mid hb
  have HR2 := Lib.hid (HR.out (W.alloc (SpObj ⟨rule, role, who, mid⟩)) ((Keeps.refl _ _).alloc _))
  clear h HR
  go_enter Try.func25, Try.ntmps25
  go_upto_region 1 with fail
  go_wp2_with (go_at_call 33; refine HR2.out.mono ?_; rintro e wA ⟨rfl, hka⟩; obtain ⟨a0, a1, s0, s1, s2, s3, lk, ls, hBA⟩ := HA.out wA hka; clear hka)
  clear HA HR2
  go_quiet (fail)
  all_goals (go_wp2_with fail; refine bodyPost_ret (v := .tuple #[.slice none 0 0, .bool false]) (by simp [results, Try.results25, go_sem]) rfl (needs_nil ?_); exact (hBA.trans ((((Keeps.refl _ _).alloc _).drewN _).below hBA.size (fun _ _ x => x))))
set_option maxHeartbeats 1600000 in
theorem needs_n5 (h : KnMem W kb p k ao n cap mb vs l) (rule role who mid kind rwho a b via : Int) (h2 : decide (who < 0) = false) (h3 : decide (p ≤ who) = false) (h4 : (kind != 3) = true) (h5 : (mid != 0) = true)
    (HR : Hid (∀ W', Keeps (fun _ => False) W W' → Calls Try.prog 33 #[.pointer (some ⟨kb, 0, none⟩), .int .i64 rule] W' fun e W2 => e = .returned (.tuple #[.agg #[.int .i64 kind, .int .i64 role, .int .i64 rwho, .int .i64 a, .int .i64 b, .int .i64 via], .bool true]) ∧ Below W'.heap.size W' W2)) :
    Calls Try.prog 25 #[.pointer (some ⟨kb, 0, none⟩), .agg #[.int .i64 rule, .int .i64 role, .int .i64 who, .int .i64 mid]] W (NeedsPost ([], false) W) := by
  have HA : Hid (∀ wA, Below (W.alloc (SpObj ⟨rule, role, who, mid⟩)).heap.size (W.alloc (SpObj ⟨rule, role, who, mid⟩)) wA → _) := fun wA hb => needs_facts h rule role who mid hb
  have HR2 := Lib.hid (HR.out (W.alloc (SpObj ⟨rule, role, who, mid⟩)) ((Keeps.refl _ _).alloc _))
  clear h HR
  go_enter Try.func25, Try.ntmps25
  go_upto_region 1 with fail
  go_wp2_with (go_at_call 33; refine HR2.out.mono ?_; rintro e wA ⟨rfl, hka⟩; obtain ⟨a0, a1, s0, s1, s2, s3, lk, ls, hBA⟩ := HA.out wA hka; clear hka)
  clear HA HR2
  go_quiet (fail)
  all_goals (go_wp2_with fail; refine bodyPost_ret (v := .tuple #[.slice none 0 0, .bool false]) (by simp [results, Try.results25, go_sem]) rfl (needs_nil ?_); exact (hBA.trans ((((Keeps.refl _ _).alloc _).drewN _).below hBA.size (fun _ _ x => x))))
set_option maxHeartbeats 1600000 in
theorem needs_k1 (h : KnMem W kb p k ao n cap mb vs l) (rule role who rwho a b via : Int) (h2 : decide (who < 0) = false) (h3 : decide (p ≤ who) = false)
    (HR : Hid (∀ W', Keeps (fun _ => False) W W' → Calls Try.prog 33 #[.pointer (some ⟨kb, 0, none⟩), .int .i64 rule] W' fun e W2 => e = .returned (.tuple #[.agg #[.int .i64 1, .int .i64 role, .int .i64 rwho, .int .i64 a, .int .i64 b, .int .i64 via], .bool true]) ∧ Below W'.heap.size W' W2)) :
    Calls Try.prog 25 #[.pointer (some ⟨kb, 0, none⟩), .agg #[.int .i64 rule, .int .i64 role, .int .i64 who, .int .i64 0]] W (NeedsPost ([], decide (rwho = who)) W) := by
  have HA : Hid (∀ wA, Below (W.alloc (SpObj ⟨rule, role, who, 0⟩)).heap.size (W.alloc (SpObj ⟨rule, role, who, 0⟩)) wA → _) := fun wA hb => needs_facts h rule role who 0 hb
  have HR2 := Lib.hid (HR.out (W.alloc (SpObj ⟨rule, role, who, 0⟩)) ((Keeps.refl _ _).alloc _))
  clear h HR
  go_enter Try.func25, Try.ntmps25
  go_upto_region 1 with fail
  go_wp2_with (go_at_call 33; refine HR2.out.mono ?_; rintro e wA ⟨rfl, hka⟩; obtain ⟨a0, a1, s0, s1, s2, s3, lk, ls, hBA⟩ := HA.out wA hka; clear hka)
  clear HA HR2
  go_quiet (fail)
  all_goals (go_wp2_with fail)
  all_goals (go_quiet (fail))
  all_goals (go_wp2_with fail; refine bodyPost_ret (v := .tuple #[.slice none 0 0, .bool (decide (rwho = who))]) (by simp [results, Try.results25, go_sem]; rfl) rfl (needs_nil ?_); exact (hBA.trans (((((Keeps.refl _ _).alloc _).drewN _).drewN _).below hBA.size (fun _ _ x => x))))
set_option maxHeartbeats 1600000 in
theorem needs_k2 (h : KnMem W kb p k ao n cap mb vs l) (rule role who rwho a b via : Int) (h2 : decide (who < 0) = false) (h3 : decide (p ≤ who) = false)
    (HR : Hid (∀ W', Keeps (fun _ => False) W W' → Calls Try.prog 33 #[.pointer (some ⟨kb, 0, none⟩), .int .i64 rule] W' fun e W2 => e = .returned (.tuple #[.agg #[.int .i64 2, .int .i64 role, .int .i64 rwho, .int .i64 a, .int .i64 b, .int .i64 via], .bool true]) ∧ Below W'.heap.size W' W2)) :
    Calls Try.prog 25 #[.pointer (some ⟨kb, 0, none⟩), .agg #[.int .i64 rule, .int .i64 role, .int .i64 who, .int .i64 0]] W (NeedsPost ([(a, who)], true) W) := by
  have HA : Hid (∀ wA, Below (W.alloc (SpObj ⟨rule, role, who, 0⟩)).heap.size (W.alloc (SpObj ⟨rule, role, who, 0⟩)) wA → _) := fun wA hb => needs_facts h rule role who 0 hb
  have HR2 := Lib.hid (HR.out (W.alloc (SpObj ⟨rule, role, who, 0⟩)) ((Keeps.refl _ _).alloc _))
  clear h HR
  go_enter Try.func25, Try.ntmps25
  go_upto_region 1 with fail
  go_wp2_with (go_at_call 33; refine HR2.out.mono ?_; rintro e wA ⟨rfl, hka⟩; obtain ⟨a0, a1, s0, s1, s2, s3, lk, ls, hBA⟩ := HA.out wA hka; clear hka)
  clear HA HR2
  go_quiet (fail)
  all_goals (go_wp2_with fail)
  all_goals (refine bodyPost_ret (v := .tuple #[.slice (some ⟨wA.heap.size + 1, 0, none⟩) 1 1, .bool true]) (by simp [results, Try.results25, go_sem]) rfl ?_; exact needs_one (a, who) (w1 := World.drewN _ _) (hBA.trans ((((Keeps.refl _ _).alloc _).drewN _).below hBA.size (fun _ _ x => x))) (by simp))
set_option maxHeartbeats 1600000 in
theorem needs_k4 (h : KnMem W kb p k ao n cap mb vs l) (rule role who rwho a b via : Int) (h2 : decide (who < 0) = false) (h3 : decide (p ≤ who) = false)
    (HR : Hid (∀ W', Keeps (fun _ => False) W W' → Calls Try.prog 33 #[.pointer (some ⟨kb, 0, none⟩), .int .i64 rule] W' fun e W2 => e = .returned (.tuple #[.agg #[.int .i64 4, .int .i64 role, .int .i64 rwho, .int .i64 a, .int .i64 b, .int .i64 via], .bool true]) ∧ Below W'.heap.size W' W2)) :
    Calls Try.prog 25 #[.pointer (some ⟨kb, 0, none⟩), .agg #[.int .i64 rule, .int .i64 role, .int .i64 who, .int .i64 0]] W (NeedsPost ([(a, who), (b, who)], true) W) := by
  have HA : Hid (∀ wA, Below (W.alloc (SpObj ⟨rule, role, who, 0⟩)).heap.size (W.alloc (SpObj ⟨rule, role, who, 0⟩)) wA → _) := fun wA hb => needs_facts h rule role who 0 hb
  have HR2 := Lib.hid (HR.out (W.alloc (SpObj ⟨rule, role, who, 0⟩)) ((Keeps.refl _ _).alloc _))
  clear h HR
  go_enter Try.func25, Try.ntmps25
  go_upto_region 1 with fail
  go_wp2_with (go_at_call 33; refine HR2.out.mono ?_; rintro e wA ⟨rfl, hka⟩; obtain ⟨a0, a1, s0, s1, s2, s3, lk, ls, hBA⟩ := HA.out wA hka; clear hka)
  clear HA HR2
  go_quiet (fail)
  all_goals (go_wp2_with fail)
  all_goals (refine bodyPost_ret (v := .tuple #[.slice (some ⟨wA.heap.size + 1, 0, none⟩) 2 2, .bool true]) (by simp [results, Try.results25, go_sem]) rfl ?_; exact needs_two (a, who) (b, who) (w1 := World.drewN _ _) (hBA.trans ((((Keeps.refl _ _).alloc _).drewN _).below hBA.size (fun _ _ x => x))) (by simp))
end
end Go.Proofs.Ytahnedkdodjomaa
