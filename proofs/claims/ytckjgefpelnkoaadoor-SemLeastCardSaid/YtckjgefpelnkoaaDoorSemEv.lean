/-
  A maker in new memory, from its making on; a model that lives in new memory.
-/
import Derived.Test.YtckjgefpelnkoaaDoorSemPutAll
import Derived.Test.YtckjgefpelnkoaaDoorSemLookWalk
import Derived.Test.YtckjgefpelnkoaaDoorSemRightAll
import Derived.Test.YtckjgefpelnkoaaDoorSemWithin
set_option linter.unusedVariables false
set_option linter.unusedSimpArgs false
set_option linter.unnecessarySimpa false
namespace Go.Proofs.YtckjgefpelnkoaaDoor
open Go.ChangeShapes Go.WideShapes Go.ChangeAt Go.RowKit Go.Deep SetPlain
/-- A slice's rules in memory. -/
def RuleRow (w : World) (ao : Option Addr) (rs : List Rl) : Prop :=
  0 < rs.length → ∃ b off, ao = some ⟨b, off, none⟩ ∧ b < w.heap.size ∧ ∀ (i : Nat) (r : Rl), rs[i]? = some r →
    w.cell? ⟨b, off + i * 6, none⟩ = some (.int .i64 r.kind) ∧ w.cell? ⟨b, off + i * 6 + 1, none⟩ = some (.int .i64 r.head) ∧ w.cell? ⟨b, off + i * 6 + 2, none⟩ = some (.int .i64 r.who) ∧ w.cell? ⟨b, off + i * 6 + 3, none⟩ = some (.int .i64 r.a) ∧ w.cell? ⟨b, off + i * 6 + 4, none⟩ = some (.int .i64 r.b) ∧ w.cell? ⟨b, off + i * 6 + 5, none⟩ = some (.int .i64 r.via)
theorem RuleRow.keeps {w w' : World} {ao : Option Addr} {rs : List Rl} (h : RuleRow w ao rs) {z : Nat} (hb : Below z w w') (hz : ∀ b off, ao = some ⟨b, off, none⟩ → b < w.heap.size → b < z) : RuleRow w' ao rs := fun h0 => by
  obtain ⟨b, off, rfl, hlt, hc⟩ := h h0
  have hbz := hz b off rfl hlt
  have k : ∀ i, w'.cell? ⟨b, i, none⟩ = w.cell? ⟨b, i, none⟩ := fun i => hb.cell (p := ⟨b, i, none⟩) hbz
  refine ⟨b, off, rfl, Nat.lt_of_lt_of_le hlt hb.size, fun i r hr => ?_⟩
  obtain ⟨c0, c1, c2, c3, c4, c5⟩ := hc i r hr
  exact ⟨(k _).trans c0, (k _).trans c1, (k _).trans c2, (k _).trans c3, (k _).trans c4, (k _).trans c5⟩
/-- A maker on its way in new memory. -/
structure EvAt (z : Nat) (w : World) (M : Mk) (vr : Nat → Value) (L : Nat → List Rl) (s : St) (vq : Value) (W : World) : Prop where
  at_ : SemAt W M vr L s vq
  base : Below z w W
  out : ∀ k, semFp M vr vq k → z ≤ k
section
variable {z : Nat} {w W : World} {M : Mk} {vr : Nat → Value} {L : Nat → List Rl} {s : St} {vq : Value}
theorem EvAt.move (hz : z ≤ w.heap.size) (h : EvAt z w M vr L s vq W) {vr' : Nat → Value} {L' : Nat → List Rl} {s' : St} {vq' : Value} {W' : World} (ha : SemAt W' M vr' L' s' vq') (hs : SemStep M vr vr' vq vq' W W') : EvAt z w M vr' L' s' vq' W' := by
  have hzW : z ≤ W.heap.size := Nat.le_trans hz h.base.size
  refine ⟨ha, h.base.trans (hs.keeps.below hzW (fun k hk hS => by have := h.out k hS; omega)), fun k hk => ?_⟩
  rcases hs.fp k hk with x | x
  · exact h.out k x
  · omega
theorem EvAt.quiet (hz : z ≤ w.heap.size) (h : EvAt z w M vr L s vq W) {W' : World} (hk : Keeps (fun _ => False) W W') : EvAt z w M vr L s vq W' := h.move hz (h.at_.keeps hk) (SemStep.quiet hk)
theorem EvAt.tab (h : EvAt z w M vr L s vq W) (hT : TabIn w) (hTz : 0 < z) : TabIn W := hT.below h.base hTz
theorem EvAt.ntab (h : EvAt z w M vr L s vq W) (hTz : 0 < z) : ¬ semFp M vr vq 0 := fun x => by have := h.out _ x; omega
theorem St.put_ext {N P : Nat} (s : St) (r : Rl) : Ext s (s.put N P r) := by
  unfold St.put
  split
  · exact (Ext.tick s).trans (St.add_ext _ _ _)
  · exact Ext.tick s
theorem St.putL_ext {N P : Nat} : ∀ (l : List Rl) (s : St), Ext s (St.putL N P l s)
  | [], s => Ext.refl s
  | r :: l, s => (St.put_ext s r).trans (St.putL_ext l _)
theorem St.putL_append {N P : Nat} (m : List Rl) : ∀ (l : List Rl) (s : St), St.putL N P (l ++ m) s = St.putL N P m (St.putL N P l s)
  | [], s => rfl
  | x :: l, s => St.putL_append m l _
theorem St.put_steps {N P : Nat} (s : St) (r : Rl) : s.steps + 1 ≤ (s.put N P r).steps := by
  unfold St.put
  split
  · exact (St.add_ext s.tick _ _).steps
  · exact Nat.le_refl _
theorem St.putL_steps {N P : Nat} : ∀ (l : List Rl) (s : St), s.steps + l.length ≤ (St.putL N P l s).steps
  | [], s => Nat.le_refl _
  | r :: l, s => by
    have h1 := St.put_steps (N := N) (P := P) s r
    have h2 := St.putL_steps (N := N) (P := P) l (s.put N P r)
    show _ ≤ (St.putL N P l (s.put N P r)).steps
    rw [List.length_cons]; omega
/-- The rules that may be, of the first j. -/
def rightTo (P K : Nat) (rs : List Rl) (j : Nat) : List Rl := (rs.take j).filter (fun r => rightB P K r)
theorem rightTo_zero (P K : Nat) (rs : List Rl) : rightTo P K rs 0 = [] := rfl
theorem rightTo_all (P K : Nat) (rs : List Rl) : rightTo P K rs rs.length = rs.filter (fun r => rightB P K r) := by unfold rightTo; rw [List.take_length]
theorem rightTo_succ {P K : Nat} {rs : List Rl} {j : Nat} {r : Rl} (h : rs[j]? = some r) : rightTo P K rs (j + 1) = if rightB P K r = true then rightTo P K rs j ++ [r] else rightTo P K rs j := by
  unfold rightTo
  rw [List.take_add_one, h, List.filter_append]
  cases hb : rightB P K r <;> simp [hb]
theorem rightTo_len (P K : Nat) (rs : List Rl) (j : Nat) : (rightTo P K rs j).length ≤ rs.length :=
  Nat.le_trans (List.length_filter_le _ _) (by rw [List.length_take]; omega)
theorem rightTo_ext {N : Nat} (P K : Nat) (rs : List Rl) (j : Nat) (s : St) : Ext (St.putL N P (rightTo P K rs j) s) (St.putL N P (rs.filter (fun r => rightB P K r)) s) := by
  have h : rs.filter (fun r => rightB P K r) = rightTo P K rs j ++ (rs.drop j).filter (fun r => rightB P K r) := by
    unfold rightTo
    rw [← List.filter_append, List.take_append_drop]
  rw [h, St.putL_append]
  exact St.putL_ext _ _
/-- A model that lives in new memory. -/
structure ModAt (z : Nat) (w : World) (mo fb bw : Nat) (rb : Nat → Nat) (P K : Nat) (rs : List Rl) (In : Nat → Nat → Bool) (tot steps : Nat) (W : World) : Prop where
  obj : W.heap[mo]? = some (.cells #[.pointer (some ⟨fb, 0, none⟩), .int .i64 P, .int .i64 K, .int .i64 steps] 50 (0, 0))
  fam : FamMem W fb bw rb (P * K) P In tot
  tells : ∀ i c, In i c = true ↔ Der K (rs.filter (fun r => rightB P K r)) i c
  most : steps ≤ 4 * (P + 1) * (P + 1) * (P + 1) * (K + 1) * (K + 1) * (rs.length + 1)
  least : (rs.filter (fun r => rightB P K r)).length ≤ steps
  base : Below z w W
  zo : z ≤ mo
  zf : ∀ k, famFp fb bw rb (P * K) k → z ≤ k
def LiveMod (z : Nat) (w : World) (mo P K : Nat) (rs : List Rl) (W : World) : Prop := ∃ fb bw rb In tot steps, ModAt z w mo fb bw rb P K rs In tot steps W
def EvalPost (P K : Nat) (rs : List Rl) (w : World) (e : Ending) (W : World) : Prop := ∃ mo, e = .returned (.pointer (some ⟨mo, 0, none⟩)) ∧ Hid (LiveMod w.heap.size w mo P K rs W)
theorem EvAt.model (h : EvAt z w M vr L s vq W) {P K : Nat} (hP : M.P = P) (hK : M.K = K) {rs : List Rl} {p : Nat} (hr : Run M.N M.P M.K (rs.filter (fun r => rightB P K r)) p s) (hq : s.q = []) (hs : (rs.filter (fun r => rightB P K r)).length ≤ s.steps) : LiveMod z w M.mo P K rs W := by
  subst hP
  subst hK
  have hm := h.at_.moo
  unfold moObj at hm
  exact ⟨M.fb, M.bw, M.rb, s.In, s.tot, s.steps, hm, h.at_.fam, fun i c => hr.done hq i c, hr.bound rfl (List.length_filter_le _ _), hs, h.base, h.out _ (.inr (.inl rfl)), fun k hk => h.out _ (.inr (.inr (.inl hk)))⟩
/-- The queue's first fact is taken off. -/
theorem EvAt.pop (hz : z ≤ w.heap.size) {In : Nat → Nat → Bool} {tot steps : Nat} {f : Nat × Nat} {q : List (Nat × Nat)} {g k cap : Nat} (h : EvAt z w M vr L ⟨In, tot, steps, f :: q⟩ (.slice (some ⟨g, k, none⟩) (q.length + 1) cap) W) :
    EvAt z w M vr L ⟨In, tot, steps, q⟩ (.slice (some ⟨g, if cap = 1 then k else k + 2, none⟩) q.length (cap - 1)) (W.setCell ⟨M.mb, 3, none⟩ (.slice (some ⟨g, if cap = 1 then k else k + 2, none⟩) q.length (cap - 1))) := by
  have hq : TailRow W 57 2 (.slice (some ⟨g, k, none⟩) (q.length + 1) cap) (q.length + 1) ([.int .i64 f.1, .int .i64 f.2] ++ fcCells q) := h.at_.que
  have h1 := hq.behind rfl
  have ha := SemMem.setQueue h.at_ h1 (Keeps.refl _ _)
  refine h.move hz ha ⟨Keeps.setCell (Keeps.refl _ _) (p := ⟨M.mb, 3, none⟩) (fun _ => .inl rfl) _, fun x hx => ?_⟩
  rcases hx with x | x | x | x | x | x | x
  · exact .inl (.inl x)
  · exact .inl (.inr (.inl x))
  · exact .inl (.inr (.inr (.inl x)))
  · exact .inl (.inr (.inr (.inr (.inl x))))
  · exact .inl (.inr (.inr (.inr (.inr (.inl x)))))
  · exact .inl (.inr (.inr (.inr (.inr (.inr (.inl x))))))
  · exact .inl (.inr (.inr (.inr (.inr (.inr (.inr x))))))
/-- What the queue's first fact lies at. -/
theorem SemAt.first {In : Nat → Nat → Bool} {tot steps : Nat} {f : Nat × Nat} {q : List (Nat × Nat)} (h : SemAt W M vr L ⟨In, tot, steps, f :: q⟩ vq) :
    ∃ g k cap, vq = .slice (some ⟨g, k, none⟩) (q.length + 1) cap ∧ q.length + 1 ≤ cap ∧ cap ≤ maxLen ∧ W.cell? ⟨g, k, none⟩ = some (.int .i64 f.1) ∧ W.cell? ⟨g, k + 1, none⟩ = some (.int .i64 f.2) := by
  obtain ⟨ao, cap, rfl, h1, h2, _, h4⟩ := h.que.form
  obtain ⟨g, k, rfl, _, hc⟩ := h4 (Nat.succ_pos _)
  exact ⟨g, k, cap, rfl, h1, h2, hc 0 _ rfl, hc 1 _ rfl⟩
end
end Go.Proofs.YtckjgefpelnkoaaDoor
