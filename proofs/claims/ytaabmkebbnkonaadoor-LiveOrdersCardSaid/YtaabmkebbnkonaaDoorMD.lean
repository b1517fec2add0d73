/-
  The nearer one of two limits: sem's within; and sem's Bound.
-/
import Derived.Test.YtaabmkebbnkonaaDoorMA
import Derived.Test.YtaabmkebbnkonaaDoorMC
import Derived.Test.YtaabmkebbnkonaaDoorSemRightAll
import Derived.Test.YtaabmkebbnkonaaDoorMB
import Derived.Deep.Upon
import Derived.Deep.RegionHeld3
import Derived.Deep.QuietTactic
set_option linter.unusedVariables false
set_option linter.unusedSimpArgs false
set_option linter.unnecessarySimpa false
namespace Go.Proofs.YtaabmkebbnkonaaDoor
open Go.ChangeShapes Go.WideShapes Go.ChangeAt Go.RowKit Go.Deep SetPlain
set_option maxRecDepth 10000 in
theorem swithin_any (n : Int) (R : Nat) (h : Within n 64 R) (w : World) : Calls Tryd.prog 43 #[.int .i64 n] w fun e w' => e = .returned (.int .i64 R) ∧ w = w' := by
  rcases h with ⟨h, rfl⟩ | ⟨h1, h2, h3⟩ | ⟨h, rfl⟩
  · have hm1 : ¬ (64 : Int) < n := by omega
    go_enter Tryd.func43, Tryd.ntmps43
    go_wp2
    go_ret
    exact ⟨rfl, rfl⟩
  · obtain rfl : n = (R : Int) := h3.symm
    go_enter Tryd.func43, Tryd.ntmps43
    go_wp2
    go_ret
    exact ⟨rfl, rfl⟩
  · go_enter Tryd.func43, Tryd.ntmps43
    go_wp2
    go_ret
    exact ⟨rfl, rfl⟩
end Go.Proofs.YtaabmkebbnkonaaDoor
/-
  A maker in new memory, from its making on; a model that lives in new memory.
-/
set_option linter.unusedVariables false
set_option linter.unusedSimpArgs false
set_option linter.unnecessarySimpa false
namespace Go.Proofs.YtaabmkebbnkonaaDoor
open Go.ChangeShapes Go.WideShapes Go.ChangeAt Go.RowKit Go.Deep SetPlain
/-- A slice's rules in memory. -/
def RuleRow (w : World) (ao : Option Addr) (rs : List Rl) : Prop :=
  0 < rs.length → ∃ b off, ao = some ⟨b, off, none⟩ ∧ b < w.heap.size ∧ ∀ (i : Nat) (r : Rl), rs[i]? = some r →
    w.cell? ⟨b, off + i * 6, none⟩ = some (.int .i64 r.kind) ∧ w.cell? ⟨b, off + i * 6 + 1, none⟩ = some (.int .i64 r.head) ∧ w.cell? ⟨b, off + i * 6 + 2, none⟩ = some (.int .i64 r.who) ∧ w.cell? ⟨b, off + i * 6 + 3, none⟩ = some (.int .i64 r.a) ∧ w.cell? ⟨b, off + i * 6 + 4, none⟩ = some (.int .i64 r.b) ∧ w.cell? ⟨b, off + i * 6 + 5, none⟩ = some (.int .i64 r.via)
theorem RuleRow.keeps {w w' : World} {ao : Option Addr} {rs : List Rl} (h : RuleRow w ao rs) {z : Nat} (hb : Below z w w') (hz : ∀ b off, ao = some ⟨b, off, none⟩ → b < w.heap.size → b < z) : RuleRow w' ao rs := fun h0 => by
  obtain ⟨b, off, rfl, hlt, hc⟩ := h h0
  have hbz := hz b off rfl hlt
  have k : ∀ i, w'.cell? ⟨b, i, none⟩ = w.cell? ⟨b, i, none⟩ := fun i => hb.cell (p := ⟨b, i, none⟩) hbz
  refine ⟨b, off, rfl, Nat.lt_of_lt_of_le hlt hb.size, fun i r hr => ?_⟩
  obtain ⟨c0, c1, c2, c3, c4, c5⟩ := hc i r hr
  exact ⟨(k _).trans c0, (k _).trans c1, (k _).trans c2, (k _).trans c3, (k _).trans c4, (k _).trans c5⟩
/-- A maker on its way in new memory. -/
structure EvAt (z : Nat) (w : World) (M : Mk) (vr : Nat → Value) (L : Nat → List Rl) (s : St) (vq : Value) (W : World) : Prop where
  at_ : SemAt W M vr L s vq
  base : Below z w W
  out : ∀ k, semFp M vr vq k → z ≤ k
section
variable {z : Nat} {w W : World} {M : Mk} {vr : Nat → Value} {L : Nat → List Rl} {s : St} {vq : Value}
theorem EvAt.move (hz : z ≤ w.heap.size) (h : EvAt z w M vr L s vq W) {vr' : Nat → Value} {L' : Nat → List Rl} {s' : St} {vq' : Value} {W' : World} (ha : SemAt W' M vr' L' s' vq') (hs : SemStep M vr vr' vq vq' W W') : EvAt z w M vr' L' s' vq' W' := by
  have hzW : z ≤ W.heap.size := Nat.le_trans hz h.base.size
  refine ⟨ha, h.base.trans (hs.keeps.below hzW (fun k hk hS => by have := h.out k hS; omega)), fun k hk => ?_⟩
  rcases hs.fp k hk with x | x
  · exact h.out k x
  · omega
theorem EvAt.quiet (hz : z ≤ w.heap.size) (h : EvAt z w M vr L s vq W) {W' : World} (hk : Keeps (fun _ => False) W W') : EvAt z w M vr L s vq W' := h.move hz (h.at_.keeps hk) (SemStep.quiet hk)
theorem EvAt.tab (h : EvAt z w M vr L s vq W) (hT : TabIn w) (hTz : 0 < z) : TabIn W := hT.below h.base hTz
theorem EvAt.ntab (h : EvAt z w M vr L s vq W) (hTz : 0 < z) : ¬ semFp M vr vq 0 := fun x => by have := h.out _ x; omega
theorem St.put_ext {N P : Nat} (s : St) (r : Rl) : Ext s (s.put N P r) := by
  unfold St.put
  split
  · exact (Ext.tick s).trans (St.add_ext _ _ _)
  · exact Ext.tick s
theorem St.putL_ext {N P : Nat} : ∀ (l : List Rl) (s : St), Ext s (St.putL N P l s)
  | [], s => Ext.refl s
  | r :: l, s => (St.put_ext s r).trans (St.putL_ext l _)
theorem St.putL_append {N P : Nat} (m : List Rl) : ∀ (l : List Rl) (s : St), St.putL N P (l ++ m) s = St.putL N P m (St.putL N P l s)
  | [], s => rfl
  | x :: l, s => St.putL_append m l _
theorem St.put_steps {N P : Nat} (s : St) (r : Rl) : s.steps + 1 ≤ (s.put N P r).steps := by
  unfold St.put
  split
  · exact (St.add_ext s.tick _ _).steps
  · exact Nat.le_refl _
theorem St.putL_steps {N P : Nat} : ∀ (l : List Rl) (s : St), s.steps + l.length ≤ (St.putL N P l s).steps
  | [], s => Nat.le_refl _
  | r :: l, s => by
    have h1 := St.put_steps (N := N) (P := P) s r
    have h2 := St.putL_steps (N := N) (P := P) l (s.put N P r)
    show _ ≤ (St.putL N P l (s.put N P r)).steps
    rw [List.length_cons]; omega
/-- The rules that may be, of the first j. -/
def rightTo (P K : Nat) (rs : List Rl) (j : Nat) : List Rl := (rs.take j).filter (fun r => rightB P K r)
theorem rightTo_zero (P K : Nat) (rs : List Rl) : rightTo P K rs 0 = [] := rfl
theorem rightTo_all (P K : Nat) (rs : List Rl) : rightTo P K rs rs.length = rs.filter (fun r => rightB P K r) := by unfold rightTo; rw [List.take_length]
theorem rightTo_succ {P K : Nat} {rs : List Rl} {j : Nat} {r : Rl} (h : rs[j]? = some r) : rightTo P K rs (j + 1) = if rightB P K r = true then rightTo P K rs j ++ [r] else rightTo P K rs j := by
  unfold rightTo
  rw [List.take_add_one, h, List.filter_append]
  cases hb : rightB P K r <;> simp [hb]
theorem rightTo_len (P K : Nat) (rs : List Rl) (j : Nat) : (rightTo P K rs j).length ≤ rs.length :=
  Nat.le_trans (List.length_filter_le _ _) (by rw [List.length_take]; omega)
theorem rightTo_ext {N : Nat} (P K : Nat) (rs : List Rl) (j : Nat) (s : St) : Ext (St.putL N P (rightTo P K rs j) s) (St.putL N P (rs.filter (fun r => rightB P K r)) s) := by
  have h : rs.filter (fun r => rightB P K r) = rightTo P K rs j ++ (rs.drop j).filter (fun r => rightB P K r) := by
    unfold rightTo
    rw [← List.filter_append, List.take_append_drop]
  rw [h, St.putL_append]
  exact St.putL_ext _ _
/-- A model that lives in new memory. -/
structure ModAt (z : Nat) (w : World) (mo fb bw : Nat) (rb : Nat → Nat) (P K : Nat) (rs : List Rl) (In : Nat → Nat → Bool) (tot steps : Nat) (W : World) : Prop where
  obj : W.heap[mo]? = some (.cells #[.pointer (some ⟨fb, 0, none⟩), .int .i64 P, .int .i64 K, .int .i64 steps] 64 (0, 0))
  fam : FamMem W fb bw rb (P * K) P In tot
  tells : ∀ i c, In i c = true ↔ Der K (rs.filter (fun r => rightB P K r)) i c
  most : steps ≤ 4 * (P + 1) * (P + 1) * (P + 1) * (K + 1) * (K + 1) * (rs.length + 1)
  least : (rs.filter (fun r => rightB P K r)).length ≤ steps
  base : Below z w W
  zo : z ≤ mo
  zf : ∀ k, famFp fb bw rb (P * K) k → z ≤ k
  tots : tot = sumTo (fun a => cnt (In a) P) (P * K)
  rng : ∀ i c, In i c = true → i < P * K ∧ c < P
def LiveMod (z : Nat) (w : World) (mo P K : Nat) (rs : List Rl) (W : World) : Prop := ∃ fb bw rb In tot steps, ModAt z w mo fb bw rb P K rs In tot steps W
def EvalPost (P K : Nat) (rs : List Rl) (w : World) (e : Ending) (W : World) : Prop := ∃ mo, e = .returned (.pointer (some ⟨mo, 0, none⟩)) ∧ Hid (LiveMod w.heap.size w mo P K rs W)
theorem EvAt.model (h : EvAt z w M vr L s vq W) {P K : Nat} (hP : M.P = P) (hK : M.K = K) {rs : List Rl} {p : Nat} (hr : Run M.N M.P M.K (rs.filter (fun r => rightB P K r)) p s) (hq : s.q = []) (hs : (rs.filter (fun r => rightB P K r)).length ≤ s.steps) : LiveMod z w M.mo P K rs W := by
  subst hP
  subst hK
  have hm := h.at_.moo
  unfold moObj at hm
  exact ⟨M.fb, M.bw, M.rb, s.In, s.tot, s.steps, hm, h.at_.fam, fun i c => hr.done hq i c, hr.bound rfl (List.length_filter_le _ _), hs, h.base, h.out _ (.inr (.inl rfl)), fun k hk => h.out _ (.inr (.inr (.inl hk))), hr.good.tot, hr.good.out⟩
/-- The queue's first fact is taken off. -/
theorem EvAt.pop (hz : z ≤ w.heap.size) {In : Nat → Nat → Bool} {tot steps : Nat} {f : Nat × Nat} {q : List (Nat × Nat)} {g k cap : Nat} (h : EvAt z w M vr L ⟨In, tot, steps, f :: q⟩ (.slice (some ⟨g, k, none⟩) (q.length + 1) cap) W) :
    EvAt z w M vr L ⟨In, tot, steps, q⟩ (.slice (some ⟨g, if cap = 1 then k else k + 2, none⟩) q.length (cap - 1)) (W.setCell ⟨M.mb, 3, none⟩ (.slice (some ⟨g, if cap = 1 then k else k + 2, none⟩) q.length (cap - 1))) := by
  have hq : TailRow W 88 2 (.slice (some ⟨g, k, none⟩) (q.length + 1) cap) (q.length + 1) ([.int .i64 f.1, .int .i64 f.2] ++ fcCells q) := h.at_.que
  have h1 := hq.behind rfl
  have ha := SemMem.setQueue h.at_ h1 (Keeps.refl _ _)
  refine h.move hz ha ⟨Keeps.setCell (Keeps.refl _ _) (p := ⟨M.mb, 3, none⟩) (fun _ => .inl rfl) _, fun x hx => ?_⟩
  rcases hx with x | x | x | x | x | x | x
  · exact .inl (.inl x)
  · exact .inl (.inr (.inl x))
  · exact .inl (.inr (.inr (.inl x)))
  · exact .inl (.inr (.inr (.inr (.inl x))))
  · exact .inl (.inr (.inr (.inr (.inr (.inl x)))))
  · exact .inl (.inr (.inr (.inr (.inr (.inr (.inl x))))))
  · exact .inl (.inr (.inr (.inr (.inr (.inr (.inr x))))))
/-- What the queue's first fact lies at. -/
theorem SemAt.first {In : Nat → Nat → Bool} {tot steps : Nat} {f : Nat × Nat} {q : List (Nat × Nat)} (h : SemAt W M vr L ⟨In, tot, steps, f :: q⟩ vq) :
    ∃ g k cap, vq = .slice (some ⟨g, k, none⟩) (q.length + 1) cap ∧ q.length + 1 ≤ cap ∧ cap ≤ maxLen ∧ W.cell? ⟨g, k, none⟩ = some (.int .i64 f.1) ∧ W.cell? ⟨g, k + 1, none⟩ = some (.int .i64 f.2) := by
  obtain ⟨ao, cap, rfl, h1, h2, _, h4⟩ := h.que.form
  obtain ⟨g, k, rfl, _, hc⟩ := h4 (Nat.succ_pos _)
  exact ⟨g, k, cap, rfl, h1, h2, hc 0 _ rfl, hc 1 _ rfl⟩
end
end Go.Proofs.YtaabmkebbnkonaaDoor
/-
  A slice of rules that came in.
-/
set_option linter.unusedVariables false
set_option linter.unusedSimpArgs false
namespace Go.Proofs.YtaabmkebbnkonaaDoor
open Go.ChangeShapes Go.WideShapes Go.ChangeAt Go.RowKit Go.Deep
def I64 (x : Int) : Prop := -9223372036854775808 ≤ x ∧ x ≤ 9223372036854775807
def Rl.Fits (r : Rl) : Prop := I64 r.kind ∧ I64 r.head ∧ I64 r.who ∧ I64 r.a ∧ I64 r.b ∧ I64 r.via
/-- The rules of a slice that came in. -/
theorem IsRow.rules {w : World} {ao : Option Addr} {n cap : Nat} {G : Nat → Nat → Value} (R : IsRow w [.int .i64, .int .i64, .int .i64, .int .i64, .int .i64, .int .i64] ao n cap G) :
    ∃ rs : List Rl, rs.length = n ∧ RuleRow w ao rs ∧ ∀ r, r ∈ rs → r.Fits := by
  have key : ∀ i, i < n → ∃ r : Rl, (G i 0 = .int .i64 r.kind ∧ G i 1 = .int .i64 r.head ∧ G i 2 = .int .i64 r.who ∧ G i 3 = .int .i64 r.a ∧ G i 4 = .int .i64 r.b ∧ G i 5 = .int .i64 r.via) ∧ r.Fits := fun i hi => by
    obtain ⟨z0, h0, w0⟩ := R.ok i 0 _ hi rfl
    obtain ⟨z1, h1, w1⟩ := R.ok i 1 _ hi rfl
    obtain ⟨z2, h2, w2⟩ := R.ok i 2 _ hi rfl
    obtain ⟨z3, h3, w3⟩ := R.ok i 3 _ hi rfl
    obtain ⟨z4, h4, w4⟩ := R.ok i 4 _ hi rfl
    obtain ⟨z5, h5, w5⟩ := R.ok i 5 _ hi rfl
    exact ⟨⟨z0, z1, z2, z3, z4, z5⟩, ⟨h0, h1, h2, h3, h4, h5⟩, bounds_i64 w0, bounds_i64 w1, bounds_i64 w2, bounds_i64 w3, bounds_i64 w4, bounds_i64 w5⟩
  have : Inhabited Rl := ⟨⟨0, 0, 0, 0, 0, 0⟩⟩
  obtain ⟨f, hf⟩ := choose_lt key
  refine ⟨(List.range n).map f, by simp, fun h0 => ?_, fun r hr => ?_⟩
  · obtain ⟨b, off, h1, h2, h3⟩ := R.at_ (by simpa using h0)
    refine ⟨b, off, h1, h2, fun i r hr => ?_⟩
    have hi : i < n := by
      rcases Nat.lt_or_ge i n with h | h
      · exact h
      · rw [List.getElem?_eq_none (by simpa using h)] at hr; cases hr
    obtain ⟨⟨g0, g1, g2, g3, g4, g5⟩, _⟩ := hf i hi
    simp [hi] at hr
    subst hr
    rw [← g0, ← g1, ← g2, ← g3, ← g4, ← g5]
    exact ⟨h3 i 0 hi (by decide), h3 i 1 hi (by decide), h3 i 2 hi (by decide), h3 i 3 hi (by decide), h3 i 4 hi (by decide), h3 i 5 hi (by decide)⟩
  · obtain ⟨i, hi, rfl⟩ := List.mem_map.1 hr
    exact (hf i (List.mem_range.1 hi)).2
theorem dims_of_fits {c : Array Value} (hs : c.size = 2) (hf : Fits [.int .i64, .int .i64] 0 c.toList) : ∃ x y : Int, c = #[.int .i64 x, .int .i64 y] := by
  obtain ⟨l⟩ := c
  match l, hs with
  | [a, b], _ =>
    obtain ⟨u, hu, x, rfl, hx⟩ := hf 0 _ rfl
    obtain ⟨v, hv, y, rfl, hy⟩ := hf 1 _ rfl
    simp at hu hv
    subst hu
    subst hv
    exact ⟨x, y, rfl⟩
end Go.Proofs.YtaabmkebbnkonaaDoor
/-
  append of a slice of rules, as one step; a row of rules of the program's own is a slice of rules.
-/
set_option linter.unusedVariables false
set_option linter.unusedSimpArgs false
namespace Go.Proofs.YtaabmkebbnkonaaDoor
open Go.ChangeShapes Go.WideShapes Go.ChangeAt Go.RowKit Go.Deep SetPlain
theorem rlCells_at : ∀ (l : List Rl) (j : Nat) (u : Value), (rlCells l)[j]? = some u → ∃ i t r, l[i]? = some r ∧ r.cells[t]? = some u ∧ j = i * 6 + t
  | [], j, u, h => by cases h
  | x :: l, j, u, h => by
    rw [rlCells] at h
    rcases Nat.lt_or_ge j 6 with hj | hj
    · rw [List.getElem?_append_left (by exact hj)] at h
      exact ⟨0, j, x, rfl, h, by omega⟩
    · rw [List.getElem?_append_right (by exact hj)] at h
      obtain ⟨i, t, r, h1, h2, h3⟩ := rlCells_at l _ u h
      refine ⟨i + 1, t, r, h1, h2, ?_⟩
      have : x.cells.length = 6 := rfl
      omega
theorem rl_cell (r : Rl) : ∀ (t : Nat) (u : Value), r.cells[t]? = some u → (t = 0 ∧ u = .int .i64 r.kind) ∨ (t = 1 ∧ u = .int .i64 r.head) ∨ (t = 2 ∧ u = .int .i64 r.who) ∨ (t = 3 ∧ u = .int .i64 r.a) ∨ (t = 4 ∧ u = .int .i64 r.b) ∨ (t = 5 ∧ u = .int .i64 r.via) := fun t u h => by
  match t, h with
  | 0, h => exact .inl ⟨rfl, (Option.some.inj h).symm⟩
  | 1, h => exact .inr (.inl ⟨rfl, (Option.some.inj h).symm⟩)
  | 2, h => exact .inr (.inr (.inl ⟨rfl, (Option.some.inj h).symm⟩))
  | 3, h => exact .inr (.inr (.inr (.inl ⟨rfl, (Option.some.inj h).symm⟩)))
  | 4, h => exact .inr (.inr (.inr (.inr (.inl ⟨rfl, (Option.some.inj h).symm⟩))))
  | 5, h => exact .inr (.inr (.inr (.inr (.inr ⟨rfl, (Option.some.inj h).symm⟩))))
  | n + 6, h => cases h
theorem rl_one (l : List Rl) : ∀ u ∈ rlCells l, u.oneCell' = true := fun u hu => by
  obtain ⟨j, hj⟩ := List.getElem?_of_mem hu
  obtain ⟨i, t, r, _, h2, _⟩ := rlCells_at l j u hj
  rcases rl_cell r t u h2 with ⟨_, rfl⟩ | ⟨_, rfl⟩ | ⟨_, rfl⟩ | ⟨_, rfl⟩ | ⟨_, rfl⟩ | ⟨_, rfl⟩ <;> rfl
theorem RuleRow.news {w : World} {ms : List Rl} {b off : Nat} (h : ∀ (i : Nat) (r : Rl), ms[i]? = some r →
    w.cell? ⟨b, off + i * 6, none⟩ = some (.int .i64 r.kind) ∧ w.cell? ⟨b, off + i * 6 + 1, none⟩ = some (.int .i64 r.head) ∧ w.cell? ⟨b, off + i * 6 + 2, none⟩ = some (.int .i64 r.who) ∧ w.cell? ⟨b, off + i * 6 + 3, none⟩ = some (.int .i64 r.a) ∧ w.cell? ⟨b, off + i * 6 + 4, none⟩ = some (.int .i64 r.b) ∧ w.cell? ⟨b, off + i * 6 + 5, none⟩ = some (.int .i64 r.via)) :
    ∀ j u, (rlCells ms)[j]? = some u → w.cell? ((⟨b, off, none⟩ : Addr).add j) = some u := fun j u hu => by
  obtain ⟨i, t, r, h1, h2, rfl⟩ := rlCells_at ms j u hu
  rw [add_plain, ← Nat.add_assoc]
  obtain ⟨c0, c1, c2, c3, c4, c5⟩ := h i r h1
  rcases rl_cell r t u h2 with ⟨rfl, rfl⟩ | ⟨rfl, rfl⟩ | ⟨rfl, rfl⟩ | ⟨rfl, rfl⟩ | ⟨rfl, rfl⟩ | ⟨rfl, rfl⟩
  · exact c0
  · exact c1
  · exact c2
  · exact c3
  · exact c4
  · exact c5
/-- A row of the program's own as a slice of rules. -/
theorem TailRow.rules {w : World} {v : Value} {rs : List Rl} (h : TailRow w 29 6 v rs.length (rlCells rs)) : ∃ ao cap, v = .slice ao rs.length cap ∧ rs.length ≤ cap ∧ cap ≤ maxLen ∧ RuleRow w ao rs := by
  obtain ⟨ao, cap, hv, hle, hm, _, hc⟩ := h.form
  refine ⟨ao, cap, hv, hle, hm, fun h0 => ?_⟩
  obtain ⟨g, k, rfl, hg, hcells⟩ := hc h0
  refine ⟨g, k, rfl, hg, fun i r hr => ?_⟩
  have hx : ∀ (t : Nat) (u : Value), r.cells[t]? = some u → w.cell? ⟨g, k + i * 6 + t, none⟩ = some u := fun t u hu => by
    have := hcells _ u (rlCells_get rs i r hr t u hu)
    rw [← Nat.add_assoc] at this
    exact this
  exact ⟨hx 0 _ rfl, hx 1 _ rfl, hx 2 _ rfl, hx 3 _ rfl, hx 4 _ rfl, hx 5 _ rfl⟩
theorem run_append_rules (w : World) (ty : TypeId) (v : Value) (rs : List Rl) (hown : TailRow w 29 6 v rs.length (rlCells rs)) (xo : Option Addr) (c : Nat) (ms : List Rl) (hx : RuleRow w xo ms) (h63 : rs.length + ms.length ≤ 100000) :
    ∃ ao' cap' w', (Builtin.append_ #[38, 38] ty #[v, .slice xo ms.length c]).run Tryd.prog w = .ok (.slice ao' (rs.length + ms.length) cap') w' ∧ TailRow w' 29 6 (.slice ao' (rs.length + ms.length) cap') (rs.length + ms.length) (rlCells rs ++ rlCells ms) ∧ w.grownBy w' v.ownBlock ∧
      (∀ k, (Value.slice ao' (rs.length + ms.length) cap').ownBlock = some k → v.ownBlock = some k ∨ w.heap.size ≤ k) := by
  obtain ⟨i0, hi0, hz0, hz1, hz2⟩ := info_parts rlInfo
  rcases Nat.eq_zero_or_pos ms.length with h0 | h0
  · obtain rfl : ms = [] := List.eq_nil_of_length_eq_zero h0
    obtain ⟨ao, cap, rfl, hle, hm, _, _⟩ := hown.form
    refine ⟨ao, cap, w, ?_, by simpa [rlCells] using hown, ⟨rfl, rfl, rfl, Nat.le_refl _, fun _ _ _ => rfl⟩, fun k hk => .inl (by simpa using hk)⟩
    refine run_append_nothing w _ _ ty 29 i0 Tryd.underlying38 hi0 ao rs.length cap hle _ ?_
    cases xo with
    | none => exact Src.ofNil w Tryd.underlying38 c
    | some a => exact Src.ofSlice w Tryd.underlying38 a 0 c [] (by simp) (fun j u hu => (by cases hu)) (fun u hu => (by cases hu))
  · obtain ⟨b, off, rfl, _, hc⟩ := hx h0
    exact run_append_tail w _ ty 29 i0 _ 6 48 Tryd.underlying38 hi0 hz0 hz1 hz2 rfl (by decide) v rs.length (rlCells rs) hown ⟨b, off, none⟩ ms.length c (rlCells ms) (rlCells_length ms) (RuleRow.news hc) (rl_one ms) h0 (by unfold maxLen; omega) (by omega)
theorem step_append_rules {ops : Array Oper} {o : Oper} {a : Act} {w : World} {K : Act → World → Prop} {Q : Exit → Act → World → Prop} {E : Prop}
    (hg : o.guard = none) (s x : Operand) (hop : o.op = Op.call { callee := Callee.builtin Builtin.append, args := #[s, x], argTypes := #[38, 38] })
    (v : Value) (rs : List Rl) (hs : a.eval s = v) (hown : TailRow w 29 6 v rs.length (rlCells rs)) (xo : Option Addr) (c m : Nat) (ms : List Rl) (hm : ms.length = m) (hx : a.eval x = .slice xo m c) (hr : RuleRow w xo ms) (k : Nat) (hk : (rs ++ ms).length = k) (h63 : k ≤ 100000)
    (hK : ∀ ao' cap' w', TailRow w' 29 6 (.slice ao' k cap') (rs ++ ms).length (rlCells (rs ++ ms)) → w.grownBy w' v.ownBlock → (∀ j, (Value.slice ao' k cap').ownBlock = some j → v.ownBlock = some j ∨ w.heap.size ≤ j) → K (a.put o.dst (.slice ao' k cap')) w') :
    if Region.wanted o (yielded ops a.tmps) = true then Oper.wp Tryd.prog o a w K Q else E := by
  subst hm
  subst hk
  have hw : Region.wanted o (yielded ops a.tmps) = true := by simp [Region.wanted, hg]
  rw [if_pos hw]
  rw [List.length_append] at h63
  obtain ⟨ao', cap', w', hrun, r1, r2, r3⟩ := run_append_rules w o.type v rs hown xo c ms hr h63
  unfold Oper.wp
  simp [execOp, hop, resolve, invoke, builtin, hs, hx, hrun, Result.andThen]
  have := hK ao' cap' w'
  rw [List.length_append, rlCells_append] at this
  exact this r1 r2 r3
end Go.Proofs.YtaabmkebbnkonaaDoor
/-
  The walk of sem's Eval.
-/
set_option linter.unusedVariables false
set_option linter.unusedSimpArgs false
set_option linter.unnecessarySimpa false
namespace Go.Proofs.YtaabmkebbnkonaaDoor
open Go.ChangeShapes Go.WideShapes Go.ChangeAt Go.RowKit Go.Deep SetPlain
theorem ruleRowInfo : (Tryd.prog.info? 38).map (fun i => (i.zero, i.size, i.bytes)) = some (some (.slice none 0 0), 1, 24) := by kernel_rfl
theorem ev_start {z : Nat} {w X : World} {M : Mk} (hP : M.P ≤ 64) (hK : M.K ≤ 64) (bv : M.bb ≠ M.vb) (hm : X.heap[M.mb]? = some (mkObj M (.slice none 0 0))) (ho : X.heap[M.mo]? = some (moObj M 0)) (hf : FamMem X M.fb M.bw M.rb M.N M.P (fun _ _ => false) 0)
    (hb : X.heap[M.bb]? = some (.cells (madeCells #[Value.slice none 0 0] M.N) 38 (0, 0))) (hv : X.heap[M.vb]? = some (.cells (madeCells #[Value.slice none 0 0] M.K) 38 (0, 0)))
    (base : Below z w X) (z1 : z ≤ M.mb) (z2 : z ≤ M.mo) (z3 : z ≤ M.bb) (z4 : z ≤ M.vb) (z5 : ∀ k, famFp M.fb M.bw M.rb M.N k → z ≤ k) :
    EvAt z w M (fun _ => .slice none 0 0) (fun _ => []) St.zero (.slice none 0 0) X := by
  refine ⟨⟨hm, ho, hf, ?_, ?_, fun i hi => TailRow.nil _ _ _, fun i j _ _ g hg => (by cases hg), TailRow.nil _ _ _, hP, hK, bv⟩, base, fun k hk => ?_⟩
  · rw [hb, madeRow]
  · rw [hv, madeRow]
  · rcases hk with x | x | x | x | x | ⟨i, hi, x⟩ | x
    · omega
    · omega
    · exact z5 k x
    · omega
    · omega
    · cases x
    · cases x
theorem ev_heap (w1 : World) (o1 o2 o3 o4 : Obj) : ((((w1.alloc o1).alloc o2).alloc o3).alloc o4).drew.heap[w1.heap.size]? = some o1 ∧ ((((w1.alloc o1).alloc o2).alloc o3).alloc o4).drew.heap[w1.heap.size + 1]? = some o2 ∧
    ((((w1.alloc o1).alloc o2).alloc o3).alloc o4).drew.heap[w1.heap.size + 1 + 1]? = some o3 ∧ ((((w1.alloc o1).alloc o2).alloc o3).alloc o4).drew.heap[w1.heap.size + 1 + 1 + 1]? = some o4 ∧ Keeps (fun _ => False) w1 ((((w1.alloc o1).alloc o2).alloc o3).alloc o4).drew := by
  have s1 : (w1.alloc o1).heap.size = w1.heap.size + 1 := by simp
  have s2 : ((w1.alloc o1).alloc o2).heap.size = w1.heap.size + 1 + 1 := by simp
  have s3 : (((w1.alloc o1).alloc o2).alloc o3).heap.size = w1.heap.size + 1 + 1 + 1 := by simp
  have a1 := heap_alloc_new w1 o1
  have a2 := heap_alloc_new (w1.alloc o1) o2
  have a3 := heap_alloc_new ((w1.alloc o1).alloc o2) o3
  have a4 := heap_alloc_new (((w1.alloc o1).alloc o2).alloc o3) o4
  rw [s1] at a2
  rw [s2] at a3
  rw [s3] at a4
  have b2 := fun i h => Below.heap_alloc (w1.alloc o1) o2 i h
  have b3 := fun i h => Below.heap_alloc ((w1.alloc o1).alloc o2) o3 i h
  have b4 := fun i h => Below.heap_alloc (((w1.alloc o1).alloc o2).alloc o3) o4 i h
  have k : Keeps (fun _ => False) w1 ((((w1.alloc o1).alloc o2).alloc o3).alloc o4).drew := (((((Keeps.refl _ _).alloc _).alloc _).alloc _).alloc _).drew
  exact ⟨(b4 _ (by omega)).trans ((b3 _ (by omega)).trans ((b2 _ (by omega)).trans a1)), (b4 _ (by omega)).trans ((b3 _ (by omega)).trans a2), (b4 _ (by omega)).trans a3, a4, k⟩
section
variable {w w1 : World} {P K N : Nat}
theorem fam_zero (hf : FamMem w1 w.heap.size (w.heap.size + 1) (fun i => w.heap.size + 2 + i) N P (fun _ _ => false) 0) : ∀ k, famFp w.heap.size (w.heap.size + 1) (fun i => w.heap.size + 2 + i) N k → w.heap.size ≤ k := fun k hk => by
  rcases hk with h | h | ⟨i, _, h⟩
  · omega
  · omega
  · have h' : k = w.heap.size + 2 + i := h
    omega
theorem ev_one (hP : P ≤ 64) (hK : K ≤ 64) (hN : P * K = N) (hf : FamMem w1 w.heap.size (w.heap.size + 1) (fun i => w.heap.size + 2 + i) N P (fun _ _ => false) 0) (hb : Below w.heap.size w w1) :
    Hid (EvAt w.heap.size w ⟨w1.heap.size + 1, w1.heap.size, w.heap.size, w.heap.size + 1, fun i => w.heap.size + 2 + i, w1.heap.size + 1 + 1, w1.heap.size + 1 + 1 + 1, P, K⟩ (fun _ => .slice none 0 0) (fun _ => []) St.zero (.slice none 0 0)
      ((((w1.alloc (.cells #[.pointer (some ⟨w.heap.size, 0, none⟩), .int .i64 P, .int .i64 K, .int .i64 0] 64)).alloc (.cells #[.pointer (some ⟨w1.heap.size, 0, none⟩), .slice (some ⟨w1.heap.size + 1 + 1, 0, none⟩) N N, .slice (some ⟨w1.heap.size + 1 + 1 + 1, 0, none⟩) K K, .slice none 0 0] 85)).alloc
        (.cells (madeCells #[Value.slice none 0 0] N) 38)).alloc (.cells (madeCells #[Value.slice none 0 0] K) 38)).drew) := by
  subst hN
  obtain ⟨h1, h2, h3, h4, k⟩ := ev_heap w1 (.cells #[.pointer (some ⟨w.heap.size, 0, none⟩), .int .i64 P, .int .i64 K, .int .i64 0] 64) (.cells #[.pointer (some ⟨w1.heap.size, 0, none⟩), .slice (some ⟨w1.heap.size + 1 + 1, 0, none⟩) (P * K) (P * K), .slice (some ⟨w1.heap.size + 1 + 1 + 1, 0, none⟩) K K, .slice none 0 0] 85) (.cells (madeCells #[Value.slice none 0 0] (P * K)) 38) (.cells (madeCells #[Value.slice none 0 0] K) 38)
  have hz := hb.size
  exact ev_start hP hK (by show w1.heap.size + 1 + 1 ≠ w1.heap.size + 1 + 1 + 1; omega) h2 h1 (hf.keeps k (fun _ _ x => x)) h3 h4 (hb.trans (k.below hz (fun _ _ x => x))) (by show _ ≤ w1.heap.size + 1; omega) hz (by show _ ≤ w1.heap.size + 1 + 1; omega) (by show _ ≤ w1.heap.size + 1 + 1 + 1; omega) (fam_zero hf)
theorem ev_two (hP : P ≤ 64) (hK : K ≤ 64) (hN : P * K = N) (hf : FamMem w1 w.heap.size (w.heap.size + 1) (fun i => w.heap.size + 2 + i) N P (fun _ _ => false) 0) (hb : Below w.heap.size w w1) :
    Hid (EvAt w.heap.size w ⟨w1.heap.size + 1, w1.heap.size, w.heap.size, w.heap.size + 1, fun i => w.heap.size + 2 + i, w1.heap.size + 1 + 1 + 1, w1.heap.size + 1 + 1, P, K⟩ (fun _ => .slice none 0 0) (fun _ => []) St.zero (.slice none 0 0)
      ((((w1.alloc (.cells #[.pointer (some ⟨w.heap.size, 0, none⟩), .int .i64 P, .int .i64 K, .int .i64 0] 64)).alloc (.cells #[.pointer (some ⟨w1.heap.size, 0, none⟩), .slice (some ⟨w1.heap.size + 1 + 1 + 1, 0, none⟩) N N, .slice (some ⟨w1.heap.size + 1 + 1, 0, none⟩) K K, .slice none 0 0] 85)).alloc
        (.cells (madeCells #[Value.slice none 0 0] K) 38)).alloc (.cells (madeCells #[Value.slice none 0 0] N) 38)).drew) := by
  subst hN
  obtain ⟨h1, h2, h3, h4, k⟩ := ev_heap w1 (.cells #[.pointer (some ⟨w.heap.size, 0, none⟩), .int .i64 P, .int .i64 K, .int .i64 0] 64) (.cells #[.pointer (some ⟨w1.heap.size, 0, none⟩), .slice (some ⟨w1.heap.size + 1 + 1 + 1, 0, none⟩) (P * K) (P * K), .slice (some ⟨w1.heap.size + 1 + 1, 0, none⟩) K K, .slice none 0 0] 85) (.cells (madeCells #[Value.slice none 0 0] K) 38) (.cells (madeCells #[Value.slice none 0 0] (P * K)) 38)
  have hz := hb.size
  exact ev_start hP hK (by show w1.heap.size + 1 + 1 + 1 ≠ w1.heap.size + 1 + 1; omega) h2 h1 (hf.keeps k (fun _ _ x => x)) h4 h3 (hb.trans (k.below hz (fun _ _ x => x))) (by show _ ≤ w1.heap.size + 1; omega) hz (by show _ ≤ w1.heap.size + 1 + 1 + 1; omega) (by show _ ≤ w1.heap.size + 1 + 1; omega) (fam_zero hf)
end
set_option maxRecDepth 100000 in
set_option maxHeartbeats 3200000 in
theorem seval_spec (p k : Int) (P K : Nat) (hP : Within p 64 P) (hK : Within k 64 K) (rs : List Rl) (hn : rs.length ≤ 1000) (ao : Option Addr) (cap : Nat) (w : World) (hR : RuleRow w ao rs) (hcap : rs.length ≤ cap) (hT : TabIn w) :
    Calls Tryd.prog 29 #[.int .i64 p, .int .i64 k, .slice ao rs.length cap] w (EvalPost P K rs w) := by
  have hPl := hP.le
  have hKl := hK.le
  have W1 : Hid (Calls Tryd.prog 43 #[.int .i64 p] w fun e w' => e = .returned (.int .i64 P) ∧ w = w') := swithin_any p P hP w
  have W2 : Hid (Calls Tryd.prog 43 #[.int .i64 k] w fun e w' => e = .returned (.int .i64 K) ∧ w = w') := swithin_any k K hK w
  obtain ⟨N, hN⟩ : ∃ N, P * K = N := ⟨_, rfl⟩
  have hNle : N ≤ 64 * 64 := by rw [← hN]; exact Nat.mul_le_mul hPl hKl
  have hmul : IntKind.i64.wrap ((P : Int) * (K : Int)) = (N : Int) := by
    have : (P : Int) * (K : Int) = (N : Int) := by rw [← hN]; simp
    rw [this]; exact IntWalk.i64_in _ (by omega)
  have hwN : Within (N : Int) 5000 N := by unfold Within; omega
  have hwP : Within (P : Int) 1000 P := by unfold Within; omega
  have W3 := Lib.hid (fnew_spec N P N P hwN hwP w)
  have hmk1 := fun W => run_make_row' (P := Tryd.prog) 82 38 (.slice none 0 0) 24 Tryd.underlying82 ruleRowInfo rfl .i64 .i64 N (by omega) (by omega) W
  have hmk2 := fun W => run_make_row' (P := Tryd.prog) 82 38 (.slice none 0 0) 24 Tryd.underlying82 ruleRowInfo rfl .i64 .i64 K (by omega) (by omega) W
  have HR := Lib.hid hR
  have HT := Lib.hid hT
  have HN := Lib.hid hN
  clear hP hK hwN hwP hR hT hN
  go_enter Tryd.func29, Tryd.ntmps29
  go_wp2_with fail
  refine W1.out.mono ?_
  rintro e w' ⟨rfl, rfl⟩
  go_wp2_with fail
  refine W2.out.mono ?_
  rintro e w' ⟨rfl, rfl⟩
  clear W1 W2
  go_wp2_with fail
  refine W3.out.mono ?_
  rintro e w1 ⟨rfl, hfam, hbel⟩
  have HF := Lib.hid hfam
  have HB := Lib.hid hbel
  clear hfam hbel W3
  go_upto_region 3 with fail
  go_cut [] (fun wx => ∃ M : Mk, M.mb = w1.heap.size + 1 ∧ M.P = P ∧ M.K = K ∧ Hid (EvAt w.heap.size w M (fun _ => .slice none 0 0) (fun _ => []) St.zero (.slice none 0 0) wx))
  case first =>
    go_region
    all_goals (go_wp2_with fail; go_meet)
    · exact ⟨⟨w1.heap.size + 1, w1.heap.size, w.heap.size, w.heap.size + 1, fun i => w.heap.size + 2 + i, w1.heap.size + 1 + 1, w1.heap.size + 1 + 1 + 1, P, K⟩, rfl, rfl, rfl, ev_one hPl hKl HN.out HF.out HB.out⟩
    · exact ⟨⟨w1.heap.size + 1, w1.heap.size, w.heap.size, w.heap.size + 1, fun i => w.heap.size + 2 + i, w1.heap.size + 1 + 1 + 1, w1.heap.size + 1 + 1, P, K⟩, rfl, rfl, rfl, ev_two hPl hKl HN.out HF.out HB.out⟩
  case rest =>
    obtain ⟨M, hmb, rfl, rfl, H0⟩ := hcut
    rw [← hmb]
    clear hmb HF HB hmk1 hmk2 hmul
    have hrs : ∀ r, r ∈ rs.filter (fun r => rightB M.P M.K r) → rightB M.P M.K r = true := fun r hr => (List.mem_filter.1 hr).2
    have hlr : (rs.filter (fun r => rightB M.P M.K r)).length ≤ 1000000 := Nat.le_trans (List.length_filter_le _ _) (by omega)
    have RUN := Lib.hid (Run.start (N := M.N) (P := M.P) (K := M.K) rfl hrs)
    have FEW := Lib.hid (RUN.out.few rfl hPl hKl hlr)
    have HRS := Lib.hid hrs
    clear hrs
    go_wp2_with fail
    go_loopg [40] rs.length (fun g t wr => ∃ j : Nat, j ≤ rs.length ∧ g = rs.length - j ∧ t = .int .i64 j ∧ ∃ vr vq, Hid (EvAt w.heap.size w M vr (keptL M.N (rightTo M.P M.K rs j)) (St.putL M.N M.P (rightTo M.P M.K rs j) St.zero) vq wr))
    case atStart => exact ⟨0, Nat.zero_le _, rfl, rfl, _, _, H0.out⟩
    case round =>
      clear H0
      obtain ⟨j, hj, rfl, rfl, vr, vq, hat⟩ := hrel
      by_cases hlt : j < rs.length
      · obtain ⟨r, hr⟩ : ∃ r, rs[j]? = some r := ⟨_, List.getElem?_eq_getElem hlt⟩
        have hrow := HR.out.keeps hat.out.base (fun _ _ _ h => h)
        obtain ⟨bb, off, rfl, hbl, hc⟩ := hrow (by omega)
        obtain ⟨c0, c1, c2, c3, c4, c5⟩ := hc j r hr
        have hjI : (j : Int) < (rs.length : Int) := by omega
        have hsc := rightTo_succ (P := M.P) (K := M.K) hr
        have hext := rightTo_ext (N := M.N) M.P M.K rs (j + 1) St.zero
        have hlen := rightTo_len M.P M.K rs j
        obtain ⟨kind, head, who, a, b, via⟩ := r
        simp only [] at c0 c1 c2 c3 c4 c5
        obtain ⟨rb, hrb⟩ : ∃ rb, rightB M.P M.K ⟨kind, head, who, a, b, via⟩ = rb := ⟨_, rfl⟩
        have hbx : EvAt w.heap.size w M vr (keptL M.N (rightTo M.P M.K rs j)) (St.putL M.N M.P (rightTo M.P M.K rs j) St.zero) vq (wr.alloc (.cells #[.int .i64 kind, .int .i64 head, .int .i64 who, .int .i64 a, .int .i64 b, .int .i64 via] 29)) := hat.out.quiet (Nat.le_refl _) ((Keeps.refl _ _).alloc _)
        have HBX := Lib.hid hbx
        have HA : Hid (Calls Tryd.prog 24 #[.int .i64 M.P, .int .i64 M.K, .agg #[.int .i64 kind, .int .i64 head, .int .i64 who, .int .i64 a, .int .i64 b, .int .i64 via]] (wr.alloc (.cells #[.int .i64 kind, .int .i64 head, .int .i64 who, .int .i64 a, .int .i64 b, .int .i64 via] 29)) (RightPost rb (wr.alloc (.cells #[.int .i64 kind, .int .i64 head, .int .i64 who, .int .i64 a, .int .i64 b, .int .i64 via] 29)))) := by
          rw [← hrb]
          exact right_spec _ _ _ ⟨kind, head, who, a, b, via⟩
        rw [hrb] at hsc
        clear hbx hat hrow hc
        go_wp2_with fail
        refine HA.out.mono ?_
        rintro e W2 ⟨rfl, hb2⟩
        have hk2 := Keeps.of_below (S := fun _ => False) hb2 (Nat.le_refl _)
        have hat2 := HBX.out.quiet (Nat.le_refl _) hk2
        have q : ∀ i, W2.cell? ⟨wr.heap.size, i, none⟩ = (wr.alloc (.cells #[.int .i64 kind, .int .i64 head, .int .i64 who, .int .i64 a, .int .i64 b, .int .i64 via] 29)).cell? ⟨wr.heap.size, i, none⟩ := fun i => hb2.cell (p := ⟨wr.heap.size, i, none⟩) (by simp)
        have q0 := (q 0).trans (by simp : _ = some (.int .i64 kind))
        have q1 := (q 1).trans (by simp : _ = some (.int .i64 head))
        have q2 := (q 2).trans (by simp : _ = some (.int .i64 who))
        have q3 := (q 3).trans (by simp : _ = some (.int .i64 a))
        have q4 := (q 4).trans (by simp : _ = some (.int .i64 b))
        have q5 := (q 5).trans (by simp : _ = some (.int .i64 via))
        clear q hk2 hb2 HA HBX c0 c1 c2 c3 c4 c5
        have HAT2 := Lib.hid hat2
        clear hat2
        cases rb with
        | false =>
          rw [if_neg (by simp)] at hsc
          have HN2 : Hid (EvAt w.heap.size w M vr (keptL M.N (rightTo M.P M.K rs (j + 1))) (St.putL M.N M.P (rightTo M.P M.K rs (j + 1)) St.zero) vq W2) := by rw [hsc]; exact HAT2.out
          clear HAT2 hsc hext
          go_wp2_with fail
          go_roundg (rs.length - (j + 1))
          case measure => omega
          case rel => exact ⟨j + 1, by omega, rfl, by go_num, _, _, HN2⟩
        | true =>
          rw [if_pos rfl] at hsc
          rw [hsc, St.putL_snoc] at hext
          have hfew := Few.down hext FEW.out
          have HPUT : Hid (Calls Tryd.prog 44 #[.pointer (some ⟨M.mb, 0, none⟩), .agg #[.int .i64 kind, .int .i64 head, .int .i64 who, .int .i64 a, .int .i64 b, .int .i64 via]] W2 (PutPost M vr (putRow M.N ⟨kind, head, who, a, b, via⟩ (keptL M.N (rightTo M.P M.K rs j))) vq ((St.putL M.N M.P (rightTo M.P M.K rs j) St.zero).put M.N M.P ⟨kind, head, who, a, b, via⟩) W2)) :=
            sput_spec HAT2.out.at_ (fun i => by have := keptL_len M.N (rightTo M.P M.K rs j) i; omega) ⟨kind, head, who, a, b, via⟩ hrb hfew
          clear hext hfew
          go_wp2_with fail
          refine HPUT.out.mono ?_
          rintro e W3 ⟨rfl, vr3, vq3, hat3, hst3⟩
          have HN2 : Hid (EvAt w.heap.size w M vr3 (keptL M.N (rightTo M.P M.K rs (j + 1))) (St.putL M.N M.P (rightTo M.P M.K rs (j + 1)) St.zero) vq3 W3) := by
            rw [hsc, keptL_snoc, St.putL_snoc]
            exact HAT2.out.move (Nat.le_refl _) hat3 hst3
          clear HAT2 hsc hat3 hst3 HPUT q0 q1 q2 q3 q4 q5
          go_wp2_with fail
          go_roundg (rs.length - (j + 1))
          case measure => omega
          case rel => exact ⟨j + 1, by omega, rfl, by go_num, _, _, HN2⟩
      · obtain rfl : j = rs.length := by omega
        rw [rightTo_all] at hat
        go_wp2_with fail
        go_loopg [52] (M.P * M.N) (fun g t wr => t = t ∧ ∃ (p : Nat) (s : St), p ≤ M.P * M.N ∧ g = M.P * M.N - p ∧ ∃ vr vq, Hid (EvAt w.heap.size w M vr (keptL M.N (rs.filter (fun r => rightB M.P M.K r))) s vq wr) ∧ Hid (Run M.N M.P M.K (rs.filter (fun r => rightB M.P M.K r)) p s) ∧ (rs.filter (fun r => rightB M.P M.K r)).length ≤ s.steps)
        case atStart => exact ⟨rfl, 0, _, Nat.zero_le _, rfl, _, _, hat, RUN, by have := St.putL_steps (N := M.N) (P := M.P) (rs.filter (fun r => rightB M.P M.K r)) St.zero; omega⟩
        case round =>
          clear hat
          obtain ⟨_, p, s, hp, rfl, vr, vq, hat, hrun, hleast⟩ := hrel
          obtain ⟨In, tot, steps, q⟩ := s
          cases q with
          | nil =>
            obtain ⟨m0, m1, m2, m3⟩ := hat.out.at_.mcells
            obtain ⟨ao2, cap2, rfl, _, _, _⟩ := hat.out.at_.que.form
            have hpost : EvalPost M.P M.K rs w (.returned (.pointer (some ⟨M.mo, 0, none⟩))) wr := ⟨M.mo, rfl, hat.out.model rfl rfl hrun.out rfl hleast⟩
            have HP := Lib.hid hpost
            clear hat hrun hpost RUN FEW HRS HR HT
            go_wp2_with fail
            go_ret
            exact HP.out
          | cons f q =>
            obtain ⟨f1, f2⟩ := f
            obtain ⟨m0, m1, m2, m3⟩ := hat.out.at_.mcells
            have fz := hat.out.at_.free.1 3
            obtain ⟨g, k, cap2, rfl, hle2, hmx2, d0, d1⟩ := hat.out.at_.first
            simp only [] at d0 d1
            obtain ⟨hnext, hext, hf1, hf2, hK0, hpl⟩ := Run.next (N := M.N) rfl HRS.out hrun.out
            simp only [] at hf1 hf2
            have hpos : (0 : Int) < ((q.length + 1 : Nat) : Int) := by omega
            have lm : M.mb < wr.heap.size := lt_of_cell m3
            have HPOP : Hid (∀ kk, (if cap2 = 1 then k else k + 2) = kk → EvAt w.heap.size w M vr (keptL M.N (rs.filter (fun r => rightB M.P M.K r))) ⟨In, tot, steps, q⟩ (.slice (some ⟨g, kk, none⟩) q.length (cap2 - 1)) ((wr.setCell ⟨M.mb, 3, none⟩ (.slice (some ⟨g, kk, none⟩) q.length (cap2 - 1))).alloc (.cells #[.int .i64 f1, .int .i64 f2] 88))) := fun kk hkk => by
              have := (EvAt.pop (Nat.le_refl _) hat.out).quiet (Nat.le_refl _) ((Keeps.refl _ _).alloc (.cells #[.int .i64 f1, .int .i64 f2] 88))
              rw [hkk] at this
              exact this
            have hfew : Few (St.look M.N M.P M.K (keptL M.N (rs.filter (fun r => rightB M.P M.K r))) ⟨In, tot, steps, q⟩ (f1, f2)) := hnext.few rfl hPl hKl hlr
            have HLOOK : Hid (∀ vq' W, EvAt w.heap.size w M vr (keptL M.N (rs.filter (fun r => rightB M.P M.K r))) ⟨In, tot, steps, q⟩ vq' W → Calls Tryd.prog 45 #[.pointer (some ⟨M.mb, 0, none⟩), .agg #[.int .i64 f1, .int .i64 f2]] W fun e W' => e = .returned (.tuple #[]) ∧
                ∃ vq3, Hid (EvAt w.heap.size w M vr (keptL M.N (rs.filter (fun r => rightB M.P M.K r))) (St.look M.N M.P M.K (keptL M.N (rs.filter (fun r => rightB M.P M.K r))) ⟨In, tot, steps, q⟩ (f1, f2)) vq3 W')) := fun vq' W h => by
              refine (slook_spec h.at_ (h.tab HT.out HT.out.lt) (h.ntab HT.out.lt) f1 f2 hf1 hf2 hK0 (fun r hr => ?_) (fun r hr => ?_) hfew).mono ?_
              · have := List.mem_filter.1 hr
                exact ⟨HRS.out r this.1, this.2⟩
              · have := List.mem_filter.1 hr
                exact ⟨HRS.out r this.1, this.2⟩
              · rintro e W' ⟨rfl, vq3, ha, hs⟩
                exact ⟨rfl, vq3, h.move (Nat.le_refl _) ha hs⟩
            have HNEXT := Lib.hid hnext
            have hle3 := Nat.le_trans hleast hext.steps
            have hp1 : p + 1 ≤ M.P * M.N := hpl
            clear hat hnext hext hfew hpl hleast hrun RUN FEW HRS HR HT
            by_cases hc1 : cap2 = 1
            · have hp2 := HPOP.out k (if_pos hc1)
              rw [show cap2 - 1 = 0 from by omega] at hp2
              have HP2 := Lib.hid hp2
              clear hp2 HPOP
              go_wp2_with fail
              refine (HLOOK.out _ _ HP2.out).mono ?_
              rintro e W3 ⟨rfl, vq3, h3⟩
              clear HLOOK HP2
              go_wp2_with fail
              go_roundg (M.P * M.N - (p + 1))
              case measure => omega
              case rel => exact ⟨trivial, p + 1, _, hp1, rfl, _, _, h3, HNEXT, hle3⟩
            · have hk1 : (if cap2 = 1 then k else k + 2) = k + 2 := if_neg hc1
              go_wp2_with fail
              refine (HLOOK.out _ _ (HPOP.out _ hk1)).mono ?_
              rintro e W3 ⟨rfl, vq3, h3⟩
              clear HLOOK HPOP
              go_wp2_with fail
              go_roundg (M.P * M.N - (p + 1))
              case measure => omega
              case rel => exact ⟨trivial, p + 1, _, hp1, rfl, _, _, h3, HNEXT, hle3⟩
end Go.Proofs.YtaabmkebbnkonaaDoor
/-
  What a model answers; the bound; the document's example.
-/
set_option linter.unusedVariables false
set_option linter.unusedSimpArgs false
set_option linter.unnecessarySimpa false
namespace Go.Proofs.YtaabmkebbnkonaaDoor
open Go.ChangeShapes Go.WideShapes Go.ChangeAt Go.RowKit Go.Deep SetPlain
section
variable {z : Nat} {w W : World} {mo fb bw : Nat} {rb : Nat → Nat} {P K : Nat} {rs : List Rl} {In : Nat → Nat → Bool} {tot steps : Nat}
theorem ModAt.keeps (hz : z ≤ w.heap.size) (h : ModAt z w mo fb bw rb P K rs In tot steps W) {W' : World} (hk : Keeps (fun _ => False) W W') : ModAt z w mo fb bw rb P K rs In tot steps W' :=
  ⟨(hk.block _ (lt_of_heap h.obj) (fun x => x)).trans h.obj, h.fam.keeps hk (fun _ _ x => x), h.tells, h.most, h.least, h.base.trans (hk.below (Nat.le_trans hz h.base.size) (fun _ _ x => x)), h.zo, h.zf, h.tots, h.rng⟩
theorem ModAt.cells (h : ModAt z w mo fb bw rb P K rs In tot steps W) : W.cell? ⟨mo, 0, none⟩ = some (.pointer (some ⟨fb, 0, none⟩)) ∧ W.cell? ⟨mo, 1, none⟩ = some (.int .i64 P) ∧ W.cell? ⟨mo, 2, none⟩ = some (.int .i64 K) ∧ W.cell? ⟨mo, 3, none⟩ = some (.int .i64 steps) :=
  ⟨by rw [cell_of_heap h.obj]; rfl, by rw [cell_of_heap h.obj]; rfl, by rw [cell_of_heap h.obj]; rfl, by rw [cell_of_heap h.obj]; rfl⟩
end
end Go.Proofs.YtaabmkebbnkonaaDoor
/-
  Whether two lists of numbers are the same.
-/
set_option linter.unusedVariables false
set_option linter.unusedSimpArgs false
set_option linter.unnecessarySimpa false
namespace Go.Proofs.YtaabmkebbnkonaaDoor
open Go.ChangeShapes Go.WideShapes Go.ChangeAt Go.RowKit Go.Deep SetPlain

/-- A slice that reads as a list of numbers. -/
def ReadsL (w : World) (v : Value) (l : List Nat) : Prop :=
  ∃ ao cap, v = .slice ao l.length cap ∧ l.length ≤ cap ∧ cap ≤ maxLen ∧ (0 < l.length → ∃ g, ao = some ⟨g, 0, none⟩ ∧ g < w.heap.size ∧ ∀ (j x : Nat), l[j]? = some x → w.cell? ⟨g, j, none⟩ = some (.int .i64 (x : Int)))
theorem ReadsL.of_own {w : World} {base : Nat} {v : Value} {l : List Nat} (h : w.ownsRow base 3 1 v l.length (l.map intV)) : ReadsL w v l := by
  obtain ⟨ao, cap, hv, hle, hm, hnone, hold⟩ := own_form h
  refine ⟨ao, cap, hv, hle, hm, fun h0 => ?_⟩
  cases ao with
  | none => have := hnone rfl; omega
  | some a =>
    obtain ⟨h4, h5, h6, _, h7⟩ := hold a rfl
    obtain ⟨bb, off, sp⟩ := a
    simp only at h4 h5 h6 h7
    subst h4; subst h5
    refine ⟨bb, rfl, h6, fun j x hj => ?_⟩
    refine h7 j (intV x) ?_
    rw [List.getElem?_map, hj]; rfl
theorem ReadsL.keeps {w w' : World} {v : Value} {l : List Nat} (h : ReadsL w v l) (hk : Keeps (fun _ => False) w w') : ReadsL w' v l := by
  obtain ⟨ao, cap, hv, hle, hm, hr⟩ := h
  refine ⟨ao, cap, hv, hle, hm, fun h0 => ?_⟩
  obtain ⟨g, h1, h2, h3⟩ := hr h0
  exact ⟨g, h1, Nat.lt_of_lt_of_le h2 hk.size, fun j x hj => (hk.cell (p := ⟨g, j, none⟩) h2 (fun x => x)).trans (h3 j x hj)⟩

def SameB (a b : List Nat) : Nat → Bool
  | 0 => true
  | k + 1 => SameB a b k && decide (a[k]? = b[k]?)
theorem SameB_iff (a b : List Nat) : ∀ k, SameB a b k = true ↔ ∀ j, j < k → a[j]? = b[j]?
  | 0 => ⟨fun _ j h => absurd h (Nat.not_lt_zero _), fun _ => rfl⟩
  | k + 1 => by
    unfold SameB
    rw [Bool.and_eq_true, SameB_iff a b k, decide_eq_true_eq]
    constructor
    · rintro ⟨h1, h2⟩ j hj
      rcases Nat.lt_or_ge j k with h | h
      · exact h1 j h
      · obtain rfl : j = k := by omega
        exact h2
    · intro h; exact ⟨fun j hj => h j (by omega), h k (by omega)⟩
theorem same_eq (a b : List Nat) (hl : a.length = b.length) : SameB a b a.length = decide (a = b) := by
  rw [Bool.eq_iff_iff, SameB_iff, decide_eq_true_eq]
  constructor
  · intro h
    apply List.ext_getElem?
    intro j
    rcases Nat.lt_or_ge j a.length with h1 | h1
    · exact h j h1
    · rw [List.getElem?_eq_none h1, List.getElem?_eq_none (by omega)]
  · rintro rfl j _; rfl

set_option maxRecDepth 10000 in
set_option maxHeartbeats 800000 in
theorem same_spec {w : World} {u v : Value} {a b : List Nat} (hu : ReadsL w u a) (hv : ReadsL w v b) (ha : a.length ≤ 1000000) (hb : b.length ≤ 1000000) :
    Calls Tryd.prog 19 #[u, v] w fun e w' => e = .returned (.bool (decide (a = b))) ∧ ∃ nq, w' = w.drewN nq := by
  obtain ⟨au, cu, rfl, _, _, hru⟩ := hu
  obtain ⟨av, cv, rfl, _, _, hrv⟩ := hv
  by_cases hl : a.length = b.length
  · obtain ⟨res, hres⟩ : ∃ res, decide (a = b) = res := ⟨_, rfl⟩
    rw [hres]
    rw [← same_eq a b hl] at hres
    have Hres := Lib.hid hres; have HU := Lib.hid hru; have HV := Lib.hid hrv; have HL := Lib.hid hl
    have hlI : ((a.length : Int) == (b.length : Int)) = true := by simp; omega
    generalize hn : a.length = n at ha hlI Hres HU HL
    generalize hm : b.length = m at hb hlI HV HL
    have hnm : n = m := HL.out
    subst hnm
    have HN := Lib.hid hn; have HM := Lib.hid hm
    clear hn hm hlI hl hres hru hrv HL
    go_enter Tryd.func19, Tryd.ntmps19
    go_wp2_with fail
    go_loopg [13] n (fun g s wr => ∃ k nq : Nat, k ≤ n ∧ g = n - k ∧ s = .int .i64 k ∧ Hid (SameB a b k = true) ∧ wr = w.drewN nq)
    case atStart => exact ⟨0, 0, Nat.zero_le _, rfl, rfl, rfl, rfl⟩
    case round =>
      obtain ⟨k, nq, hk, rfl, rfl, hs, rfl⟩ := hrel
      by_cases hlt : k < n
      · obtain ⟨gu, rfl, hgu, hcu⟩ := HU.out (by omega)
        obtain ⟨gv, rfl, hgv, hcv⟩ := HV.out (by omega)
        have hau : a[k]? = some (a[k]'(by rw [HN.out]; exact hlt)) := List.getElem?_eq_getElem _
        have hbv : b[k]? = some (b[k]'(by rw [HM.out]; exact hlt)) := List.getElem?_eq_getElem _
        generalize a[k]'(by rw [HN.out]; exact hlt) = x at hau
        generalize b[k]'(by rw [HM.out]; exact hlt) = y at hbv
        have cu1 := hcu k x hau
        have cv1 := hcv k y hbv
        have hkI : (k : Int) < (n : Int) := by omega
        by_cases hxy : x = y
        · have hs2 : Hid (SameB a b (k + 1) = true) := by
            show (SameB a b k && decide (a[k]? = b[k]?)) = true
            rw [hs.out, hau, hbv, hxy]; simp
          subst hxy
          clear hcu hcv hau hbv
          go_wp2_with fail
          go_quiet (fail)
          go_wp2_with fail
          go_roundg (n - (k + 1))
          case measure => omega
          case rel => exact ⟨k + 1, _, by omega, rfl, by go_num, hs2.out, rfl⟩
        · have hr : res = false := by
            rw [← Hres.out]
            cases hh : SameB a b n with
            | false => rfl
            | true => have := (SameB_iff a b n).1 hh k hlt; rw [hau, hbv] at this; exact absurd (Option.some.inj this) hxy
          have h1 : ((x : Int) == (y : Int)) = false := by simp; omega
          have h2 : ((x : Int) != (y : Int)) = true := by simp; omega
          clear hcu hcv hau hbv hxy Hres
          subst hr
          go_wp2_with fail
          go_quiet (fail)
          go_wp2
          go_ret
          exact ⟨rfl, _, World.drewN_drewN _ _ _⟩
      · obtain rfl : k = n := by omega
        have hr : res = true := by rw [← Hres.out]; exact hs.out
        clear Hres
        subst hr
        go_wp2
        go_ret
        exact ⟨rfl, _, rfl⟩
  · have hne : a ≠ b := fun e => hl (by rw [e])
    rw [decide_eq_false hne]
    have h1 : ((a.length : Int) == (b.length : Int)) = false := by simp; omega
    have h2 : ((a.length : Int) != (b.length : Int)) = true := by simp; omega
    generalize a.length = n at *
    generalize b.length = m at *
    clear hru hrv hl hne
    go_enter Tryd.func19, Tryd.ntmps19
    go_wp2
    go_ret
    exact ⟨rfl, 0, rfl⟩
end Go.Proofs.YtaabmkebbnkonaaDoor
/-
  The document's example of layer 8: true.
-/
set_option linter.unusedVariables false
set_option linter.unusedSimpArgs false
set_option linter.unnecessarySimpa false
namespace Go.Proofs.YtaabmkebbnkonaaDoor
open Go.ChangeShapes Go.WideShapes Go.ChangeAt Go.RowKit Go.Deep SetPlain
def exRules : List Rl := [⟨2, 0, 0, 3, 0, 0⟩, ⟨1, 3, 2, 0, 0, 0⟩]
theorem exFilter : exRules.filter (fun r => rightB (3 : Nat) (2 : Nat) r) = exRules := by decide
theorem exDer {i c : Nat} (d : Der 2 exRules i c) : c = 2 ∧ (i = 0 ∨ i = 3) := by
  induction d with
  | mem r h1 h2 =>
    unfold exRules at h1
    simp only [List.mem_cons, List.not_mem_nil, or_false] at h1
    rcases h1 with rfl | rfl
    · simp at h2
    · exact ⟨rfl, .inr rfl⟩
  | incl r c h1 h2 _ ih =>
    unfold exRules at h1
    simp only [List.mem_cons, List.not_mem_nil, or_false] at h1
    rcases h1 with rfl | rfl
    · exact ⟨ih.1, .inl rfl⟩
    · simp at h2
  | link r x c h1 h2 _ _ _ _ =>
    unfold exRules at h1
    simp only [List.mem_cons, List.not_mem_nil, or_false] at h1
    rcases h1 with rfl | rfl <;> simp at h2
  | both r c h1 h2 _ _ _ _ =>
    unfold exRules at h1
    simp only [List.mem_cons, List.not_mem_nil, or_false] at h1
    rcases h1 with rfl | rfl <;> simp at h2
theorem exIn {In : Nat → Nat → Bool} (h : ∀ i c, In i c = true ↔ Der 2 exRules i c) : In 0 = fun c => decide (c = 2) := by
  funext c
  have hd : Der 2 exRules 0 2 := .incl ⟨2, 0, 0, 3, 0, 0⟩ 2 (by decide) rfl (.mem ⟨1, 3, 2, 0, 0, 0⟩ (by decide) rfl)
  by_cases hc : c = 2
  · subst hc
    rw [(h 0 2).2 hd]; rfl
  · cases hb : In 0 c with
    | true => exact absurd (exDer ((h 0 c).1 hb)).1 hc
    | false => simp [hc]
def ExObj : Obj := .cells #[.int .i64 2, .int .i64 0, .int .i64 0, .int .i64 3, .int .i64 0, .int .i64 0, .int .i64 1, .int .i64 3, .int .i64 2, .int .i64 0, .int .i64 0, .int .i64 0] 29
theorem exRow (w : World) : RuleRow (w.alloc ExObj) (some ⟨w.heap.size, 0, none⟩) exRules := fun _ => by
  refine ⟨w.heap.size, 0, rfl, by simp, fun i r h => ?_⟩
  unfold exRules at h
  unfold ExObj
  match i, h with
  | 0, h =>
    simp only [List.getElem?_cons_zero, Option.some.injEq] at h
    subst h
    refine ⟨?_, ?_, ?_, ?_, ?_, ?_⟩ <;> simp
  | 1, h =>
    simp only [List.getElem?_cons_succ, List.getElem?_cons_zero, Option.some.injEq] at h
    subst h
    refine ⟨?_, ?_, ?_, ?_, ?_, ?_⟩ <;> simp
def SemLivesPost (w : World) (e : Ending) (w' : World) : Prop := e = .returned (.bool true) ∧ Below w.heap.size w w'
end Go.Proofs.YtaabmkebbnkonaaDoor
/-
  A model in memory, whatever made it: what it answers; what is kept while only new memory is written.
-/
set_option linter.unusedVariables false
set_option linter.unusedSimpArgs false
set_option linter.unnecessarySimpa false
namespace Go.Proofs.YtaabmkebbnkonaaDoor
open Go.ChangeShapes Go.WideShapes Go.ChangeAt Go.RowKit Go.Deep SetPlain
/-- A model in memory. -/
structure Mdl (mo fb bw : Nat) (rb : Nat → Nat) (P K tot steps : Nat) (In : Nat → Nat → Bool) (W : World) : Prop where
  obj : W.heap[mo]? = some (.cells #[.pointer (some ⟨fb, 0, none⟩), .int .i64 P, .int .i64 K, .int .i64 steps] 64 (0, 0))
  fam : FamMem W fb bw rb (P * K) P In tot
section
variable {W : World} {mo fb bw : Nat} {rb : Nat → Nat} {P K tot steps : Nat} {In : Nat → Nat → Bool}
theorem Mdl.keeps (h : Mdl mo fb bw rb P K tot steps In W) {W' : World} (hk : Keeps (fun _ => False) W W') : Mdl mo fb bw rb P K tot steps In W' :=
  ⟨(hk.block _ (lt_of_heap h.obj) (fun x => x)).trans h.obj, h.fam.keeps hk (fun _ _ x => x)⟩
theorem Mdl.cells (h : Mdl mo fb bw rb P K tot steps In W) : W.cell? ⟨mo, 0, none⟩ = some (.pointer (some ⟨fb, 0, none⟩)) ∧ W.cell? ⟨mo, 1, none⟩ = some (.int .i64 P) ∧ W.cell? ⟨mo, 2, none⟩ = some (.int .i64 K) ∧ W.cell? ⟨mo, 3, none⟩ = some (.int .i64 steps) :=
  ⟨by rw [cell_of_heap h.obj]; rfl, by rw [cell_of_heap h.obj]; rfl, by rw [cell_of_heap h.obj]; rfl, by rw [cell_of_heap h.obj]; rfl⟩
end
/-- Eval, from a world on in which only new memory is written. -/
theorem eval_keep {p k : Int} {P K : Nat} (hP : Within p 64 P) (hK : Within k 64 K) {rs : List Rl} {n : Nat} (hrs : rs.length = n) (hn : n ≤ 1000) {ao : Option Addr} {cap : Nat} (hcap : n ≤ cap) {w W : World} (hk : Keeps (fun _ => False) w W) (hR : RuleRow W ao rs) (hT : TabIn W) :
    Calls Tryd.prog 29 #[.int .i64 p, .int .i64 k, .slice ao n cap] W fun e W' => ∃ mo, e = .returned (.pointer (some ⟨mo, 0, none⟩)) ∧ Hid (∃ fb bw rb tot steps In, Mdl mo fb bw rb P K tot steps In W' ∧ ∀ i c, In i c = true ↔ Der K (rs.filter (fun r => rightB P K r)) i c) ∧ Hid (Keeps (fun _ => False) w W') := by
  subst hrs
  refine (seval_spec p k P K hP hK rs hn ao cap W hR hcap hT).mono ?_
  rintro e W' ⟨mo, rfl, hl⟩
  obtain ⟨fb, bw, rb, In, tot, steps, hm⟩ := hl.out
  exact ⟨mo, rfl, ⟨fb, bw, rb, tot, steps, In, ⟨hm.obj, hm.fam⟩, hm.tells⟩, hk.trans (Keeps.of_below hm.base (Nat.le_refl _))⟩
/-- Rules turned round, and doubled: the first j rounds. -/
def backTo (rs : List Rl) : Nat → List Rl
  | 0 => []
  | j + 1 => backTo rs j ++ [(rs[rs.length - 1 - j]?).getD ⟨0, 0, 0, 0, 0, 0⟩, (rs[j]?).getD ⟨0, 0, 0, 0, 0, 0⟩]
theorem backTo_length (rs : List Rl) : ∀ j, (backTo rs j).length = 2 * j
  | 0 => rfl
  | j + 1 => by rw [backTo, List.length_append, backTo_length rs j]; simp; omega
theorem backTo_sub (rs : List Rl) : ∀ j, j ≤ rs.length → ∀ r, r ∈ backTo rs j → r ∈ rs
  | 0, _, r, h => by cases h
  | j + 1, hj, r, h => by
    rw [backTo] at h
    rcases List.mem_append.1 h with h | h
    · exact backTo_sub rs j (by omega) r h
    · have h1 : rs.length - 1 - j < rs.length := by omega
      have h2 : j < rs.length := by omega
      rw [List.getElem?_eq_getElem h1, List.getElem?_eq_getElem h2] at h
      simp only [Option.getD_some, List.mem_cons, List.not_mem_nil, or_false] at h
      rcases h with rfl | rfl
      · exact List.getElem_mem h1
      · exact List.getElem_mem h2
theorem backTo_has (rs : List Rl) : ∀ j i, i < j → j ≤ rs.length → ∀ r, rs[i]? = some r → r ∈ backTo rs j
  | 0, i, h, _, _, _ => absurd h (Nat.not_lt_zero _)
  | j + 1, i, h, hj, r, hr => by
    rw [backTo]
    rcases Nat.lt_or_ge i j with h1 | h1
    · exact List.mem_append_left _ (backTo_has rs j i h1 (by omega) r hr)
    · obtain rfl : i = j := by omega
      refine List.mem_append_right _ ?_
      rw [hr]; simp
theorem backTo_mem (rs : List Rl) (r : Rl) : r ∈ backTo rs rs.length ↔ r ∈ rs :=
  ⟨backTo_sub rs _ (Nat.le_refl _) r, fun h => by
    obtain ⟨i, hi⟩ := List.getElem?_of_mem h
    have : i < rs.length := by
      rcases Nat.lt_or_ge i rs.length with h | h
      · exact h
      · rw [List.getElem?_eq_none h] at hi; cases hi
    exact backTo_has rs _ i this (Nat.le_refl _) r hi⟩
theorem Der.right_mono {P K : Nat} {rs ss : List Rl} (h : ∀ r, r ∈ rs → r ∈ ss) {i c : Nat} (d : Der K (rs.filter (fun r => rightB P K r)) i c) : Der K (ss.filter (fun r => rightB P K r)) i c :=
  d.mono fun r hr => by
    have := List.mem_filter.1 hr
    exact List.mem_filter.2 ⟨h r this.1, this.2⟩
theorem two_row (W : World) (r s : Rl) : RuleRow (W.alloc (.cells #[.int .i64 r.kind, .int .i64 r.head, .int .i64 r.who, .int .i64 r.a, .int .i64 r.b, .int .i64 r.via, .int .i64 s.kind, .int .i64 s.head, .int .i64 s.who, .int .i64 s.a, .int .i64 s.b, .int .i64 s.via] 29)) (some ⟨W.heap.size, 0, none⟩) [r, s] := fun _ => by
  refine ⟨W.heap.size, 0, rfl, by simp, fun i x h => ?_⟩
  match i, h with
  | 0, h =>
    simp only [List.getElem?_cons_zero, Option.some.injEq] at h
    subst h
    refine ⟨?_, ?_, ?_, ?_, ?_, ?_⟩ <;> simp
  | 1, h =>
    simp only [List.getElem?_cons_succ, List.getElem?_cons_zero, Option.some.injEq] at h
    subst h
    refine ⟨?_, ?_, ?_, ?_, ?_, ?_⟩ <;> simp
theorem empty_row (W : World) : TailRow (W.alloc (.cells #[] 29)) 29 6 (.slice (some ⟨W.heap.size, 0, none⟩) 0 0) ([] : List Rl).length (rlCells []) :=
  ⟨rfl, .inr ⟨W.heap.size, 0, 0, #[], rfl, heap_alloc_new W _, Nat.le_refl _, by unfold maxLen; omega, by simp, fun j u hu => by cases hu⟩⟩
end Go.Proofs.YtaabmkebbnkonaaDoor
/-
  Len, Inside, Meets of a family of sets.
-/
set_option linter.unusedVariables false
set_option linter.unusedSimpArgs false
set_option linter.unnecessarySimpa false
namespace Go.Proofs.YtaabmkebbnkonaaDoor
open Go.ChangeShapes Go.WideShapes Go.ChangeAt Go.RowKit Go.Deep SetPlain

section
variable {w : World} {b bw : Nat} {rb : Nat → Nat} {R C : Nat} {In : Nat → Nat → Bool} {tot : Nat}
end
end Go.Proofs.YtaabmkebbnkonaaDoor
/-
  The walk of a model's Holds.
-/
set_option linter.unusedVariables false
set_option linter.unusedSimpArgs false
set_option linter.unnecessarySimpa false
namespace Go.Proofs.YtaabmkebbnkonaaDoor
open Go.ChangeShapes Go.WideShapes Go.ChangeAt Go.RowKit Go.Deep SetPlain
def hold3 (N P K : Nat) (In : Nat → Nat → Bool) (head via : Int) (x : Nat) : Bool := allIn (rowP N In ((x : Int) * K + via)) (rowP N In head) P
def hold4 (N P : Nat) (In : Nat → Nat → Bool) (head b : Int) (x : Nat) : Bool := !(hasB N P In b x && !hasB N P In head x)
/-- Does a rule hold in a model? -/
def holdsB (P K : Nat) (In : Nat → Nat → Bool) (r : Rl) : Bool :=
  rightB P K r && (if r.kind = 1 then hasB (P * K) P In r.head r.who
    else if r.kind = 2 then allIn (rowP (P * K) In r.a) (rowP (P * K) In r.head) P
    else if r.kind = 3 then (listTo (rowP (P * K) In r.a) P).all (hold3 (P * K) P K In r.head r.via)
    else (listTo (rowP (P * K) In r.a) P).all (hold4 (P * K) P In r.head r.b))
def HoldC (mo fb P K x : Nat) (r : Rl) (W : World) : Prop :=
  W.cell? ⟨mo, 0, none⟩ = some (.pointer (some ⟨fb, 0, none⟩)) ∧ W.cell? ⟨mo, 1, none⟩ = some (.int .i64 P) ∧ W.cell? ⟨mo, 2, none⟩ = some (.int .i64 K) ∧ W.cell? ⟨x, 0, none⟩ = some (.int .i64 r.kind) ∧ W.cell? ⟨x, 1, none⟩ = some (.int .i64 r.head) ∧ W.cell? ⟨x, 2, none⟩ = some (.int .i64 r.who) ∧ W.cell? ⟨x, 3, none⟩ = some (.int .i64 r.a) ∧ W.cell? ⟨x, 4, none⟩ = some (.int .i64 r.b) ∧ W.cell? ⟨x, 5, none⟩ = some (.int .i64 r.via)
/-- A model, and a rule's box. -/
structure HoldM (mo fb bw : Nat) (rb : Nat → Nat) (P K tot steps : Nat) (In : Nat → Nat → Bool) (x : Nat) (r : Rl) (W0 W : World) : Prop where
  mdl : Mdl mo fb bw rb P K tot steps In W
  rule : RlAt W x r
  keep : Keeps (fun _ => False) W0 W
  tab : TabIn W
section
variable {W W0 : World} {mo fb bw : Nat} {rb : Nat → Nat} {P K tot steps : Nat} {In : Nat → Nat → Bool} {x : Nat} {r : Rl}
theorem HoldM.quiet (h : HoldM mo fb bw rb P K tot steps In x r W0 W) {W' : World} (hk : Keeps (fun _ => False) W W') : HoldM mo fb bw rb P K tot steps In x r W0 W' := by
  obtain ⟨r0, r1, r2, r3, r4, r5⟩ := h.rule
  have hx := lt_of_cell r0
  have hc : ∀ i, W'.cell? ⟨x, i, none⟩ = W.cell? ⟨x, i, none⟩ := fun i => hk.cell (p := ⟨x, i, none⟩) hx (fun x => x)
  exact ⟨h.mdl.keeps hk, ⟨(hc 0).trans r0, (hc 1).trans r1, (hc 2).trans r2, (hc 3).trans r3, (hc 4).trans r4, (hc 5).trans r5⟩, h.keep.trans hk, h.tab.keeps hk (fun x => x)⟩
theorem HoldM.rd (h : HoldM mo fb bw rb P K tot steps In x r W0 W) : HoldC mo fb P K x r W := ⟨h.mdl.cells.1, h.mdl.cells.2.1, h.mdl.cells.2.2.1, h.rule⟩
theorem HoldM.start (h : Mdl mo fb bw rb P K tot steps In W) (hT : TabIn W) (r : Rl) : HoldM mo fb bw rb P K tot steps In W.heap.size r W (W.alloc (ruleObj r)) := by
  have hk : Keeps (fun _ => False) W (W.alloc (ruleObj r)) := (Keeps.refl _ _).alloc _
  refine ⟨h.keeps hk, ?_, hk, hT.keeps hk (fun x => x)⟩
  unfold ruleObj RlAt; refine ⟨?_, ?_, ?_, ?_, ?_, ?_⟩ <;> simp
theorem HoldM.has (h : HoldM mo fb bw rb P K tot steps In x r W0 W) (i c : Int) (hc0 : -9223372036854775808 ≤ c) (hc1 : c ≤ 9223372036854775807) :
    Calls Tryd.prog 32 #[.pointer (some ⟨fb, 0, none⟩), .int .i64 i, .int .i64 c] W fun e w' => e = .returned (.bool (hasB (P * K) P In i c)) ∧ w' = W :=
  (fhas_spec h.mdl.fam i c hc0 hc1).mono fun e w' x => ⟨x.1, x.2.symm⟩
theorem HoldM.list (h : Hid (HoldM mo fb bw rb P K tot steps In x r W0 W)) (i : Int) :
    Calls Tryd.prog 31 #[.pointer (some ⟨fb, 0, none⟩), .int .i64 i] W fun e w' => ∃ ao cap, e = .returned (.slice ao (listTo (rowP (P * K) In i) P).length cap) ∧ Hid (ReadsL w' (.slice ao (listTo (rowP (P * K) In i) P).length cap) (listTo (rowP (P * K) In i) P)) ∧ Hid (HoldM mo fb bw rb P K tot steps In x r W0 w') := by
  refine (flist_spec h.out.mdl.fam h.out.tab i).mono ?_
  rintro e w' ⟨v, rfl, hown, hb⟩
  have hr := ReadsL.of_own hown
  have hr2 := hr
  obtain ⟨ao, cap, rfl, _⟩ := hr2
  exact ⟨ao, cap, rfl, hr, h.out.quiet (Keeps.of_below hb (Nat.le_refl _))⟩
theorem HoldM.right (h : Hid (HoldM mo fb bw rb P K tot steps In x r W0 W)) : Calls Tryd.prog 24 #[.int .i64 P, .int .i64 K, .agg r.cells.toArray] W fun e w' => e = .returned (.bool (rightB P K r)) ∧ Hid (HoldM mo fb bw rb P K tot steps In x r W0 w') :=
  (right_spec W P K r).mono fun e w' ⟨he, hb⟩ => ⟨he, h.out.quiet (Keeps.of_below hb (Nat.le_refl _))⟩
theorem HoldM.below (h : HoldM mo fb bw rb P K tot steps In x r W0 W) : Below W0.heap.size W0 W := h.keep.below (Nat.le_refl _) (fun _ _ x => x)
end
end Go.Proofs.YtaabmkebbnkonaaDoor
