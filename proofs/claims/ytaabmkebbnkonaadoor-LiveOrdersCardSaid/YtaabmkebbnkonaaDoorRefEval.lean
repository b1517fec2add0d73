/-
  The walk of the document's Eval.
-/
import Derived.Test.YtaabmkebbnkonaaDoorRefPlain
import Derived.Test.YtaabmkebbnkonaaDoorRefOnceLink
import Derived.Deep.QuietTactic
set_option linter.unusedVariables false
set_option linter.unusedSimpArgs false
set_option linter.unnecessarySimpa false
namespace Go.Proofs.YtaabmkebbnkonaaDoor
open Go.ChangeShapes Go.WideShapes Go.ChangeAt Go.RowKit Go.Deep SetPlain
/-- What the document's Eval leaves. -/
def RefPost (P K : Nat) (rs : List Rl) (w : World) (e : Ending) (W : World) : Prop :=
  ∃ b, e = .returned (.pointer (some ⟨b, 0, none⟩)) ∧ Hid (∃ ao cap rb In, RefE w.heap.size w b ao cap rb P K (P * K) In W ∧ SndIn P K (rs.filter (fun r => rightB P K r)) In ∧ ∀ i c, Der K (rs.filter (fun r => rightB P K r)) i c → In i c = true)
def passTo (P K : Nat) (rs : List Rl) (In0 : Nat → Nat → Bool) (j : Nat) (flag : Bool) (In : Nat → Nat → Bool) : Prop :=
  SndIn P K (rs.filter (fun r => rightB P K r)) In ∧ totIn P (P * K) In0 + (if flag = true then 1 else 0) ≤ totIn P (P * K) In ∧ (flag = false → In = In0 ∧ ∀ r, r ∈ rs.take j → rightB P K r = true → ∀ c, c < P → prem P K r In0 c = true → In0 r.head.toNat c = true)
theorem passTo.next {P K : Nat} {rs : List Rl} {In0 In : Nat → Nat → Bool} {j : Nat} {flag : Bool} (h : passTo P K rs In0 j flag In) {r : Rl} (hr : rs[j]? = some r) :
    (rightB P K r = false → passTo P K rs In0 (j + 1) flag In) ∧ (rightB P K r = true → passTo P K rs In0 (j + 1) (flag || (onceTo P K r In P).2) (onceTo P K r In P).1) := by
  obtain ⟨h1, h2, h3⟩ := h
  have htk : ∀ u, u ∈ rs.take (j + 1) → u ∈ rs.take j ∨ u = r := fun u hu => by
    rw [List.take_add_one, hr] at hu
    rcases List.mem_append.1 hu with hu | hu
    · exact .inl hu
    · simp only [Option.toList_some, List.mem_singleton] at hu; exact .inr hu
  refine ⟨fun hR => ⟨h1, h2, fun hf => ⟨(h3 hf).1, fun u hu hRu => ?_⟩⟩, fun hR => ⟨onceTo_snd hR (List.mem_filter.2 ⟨List.mem_of_getElem? hr, hR⟩) h1 P (Nat.le_refl _), ?_, fun hf => ?_⟩⟩
  · rcases htk u hu with h | h
    · exact (h3 hf).2 u h hRu
    · subst h; rw [hR] at hRu; cases hRu
  · have ht := onceTo_tot (In := In) hR P (Nat.le_refl _)
    cases flag with
    | true => simp only [Bool.true_or] at *; split at ht <;> simp_all <;> omega
    | false => simp only [Bool.false_or] at *; simp at h2; omega
  · rw [Bool.or_eq_false_iff] at hf
    obtain ⟨g1, g2⟩ := onceTo_none P hf.2
    obtain ⟨g3, g4⟩ := h3 hf.1
    refine ⟨by rw [g1, g3], fun u hu hRu => ?_⟩
    rcases htk u hu with h | h
    · exact g4 u h hRu
    · subst h; rw [← g3]; exact g2
/-- A model and a rule's box beside it. -/
structure RefX (z : Nat) (w : World) (b : Nat) (ao : Option Addr) (cap : Nat) (rb : Rows) (P K N x : Nat) (r : Rl) (In : Nat → Nat → Bool) (W : World) : Prop where
  e : RefE z w b ao cap rb P K N In W
  rule : RlAt W x r
  nx : ∀ i, i < N → rb.blk i < x
section
variable {z : Nat} {w W : World} {b : Nat} {ao : Option Addr} {cap : Nat} {rb : Rows} {P K N x : Nat} {r : Rl} {In : Nat → Nat → Bool}
theorem RefX.go (hz : z ≤ w.heap.size) (h : RefX z w b ao cap rb P K N x r In W) {In' : Nat → Nat → Bool} {W' : World} (he : RefE z w b ao cap rb P K N In' W') (hk : Keeps (refRows rb N) W W') : RefX z w b ao cap rb P K N x r In' W' := by
  obtain ⟨r0, r1, r2, r3, r4, r5⟩ := h.rule
  have hx := lt_of_cell r0
  have hn : ¬ refRows rb N x := fun ⟨i, hi, e⟩ => by have := h.nx i hi; omega
  have hc : ∀ i, W'.cell? ⟨x, i, none⟩ = W.cell? ⟨x, i, none⟩ := fun i => hk.cell (p := ⟨x, i, none⟩) hx hn
  exact ⟨he, ⟨(hc 0).trans r0, (hc 1).trans r1, (hc 2).trans r2, (hc 3).trans r3, (hc 4).trans r4, (hc 5).trans r5⟩, h.nx⟩
theorem RefX.quiet (hz : z ≤ w.heap.size) (h : RefX z w b ao cap rb P K N x r In W) {W' : World} (hk : Keeps (fun _ => False) W W') : RefX z w b ao cap rb P K N x r In W' := h.go hz (h.e.quiet hz hk) (hk.mono (fun _ _ x => x.elim))
theorem RefX.move (hz : z ≤ w.heap.size) (h : RefX z w b ao cap rb P K N x r In W) {In' : Nat → Nat → Bool} {W' : World} (hm : RefM W' b ao cap rb P K N In') (hk : Keeps (refRows rb N) W W') : RefX z w b ao cap rb P K N x r In' W' := h.go hz (h.e.move hz hm hk) hk
theorem RefX.start (hz : z ≤ w.heap.size) (h : RefE z w b ao cap rb P K N In W) (r : Rl) : RefX z w b ao cap rb P K N W.heap.size r In ((W.alloc (ruleObj r)).drew) := by
  refine ⟨h.quiet hz (((Keeps.refl _ _).alloc _).drew), ?_, fun i hi => h.mem.lt hi⟩
  unfold ruleObj RlAt; refine ⟨?_, ?_, ?_, ?_, ?_, ?_⟩ <;> simp
end
set_option maxRecDepth 100000 in
set_option maxHeartbeats 3200000 in
theorem reval_spec (p k : Int) (P K : Nat) (hP : Within p 64 P) (hK : Within k 64 K) (hp : p ≤ 64) (hk : k ≤ 64) (rs : List Rl) (n : Nat) (hrs : rs.length = n) (hn : n ≤ 1000) (ao0 : Option Addr) (cap0 : Nat) (w : World) (hR : RuleRow w ao0 rs) (hcap : n ≤ cap0) :
    Calls Tryd.prog 10 #[.int .i64 p, .int .i64 k, .slice ao0 n cap0] w (RefPost P K rs w) := by
  have hPl := hP.le
  have hKl := hK.le
  obtain ⟨N, hN⟩ : ∃ N, P * K = N := ⟨_, rfl⟩
  have hNle : N ≤ 64 * 64 := by rw [← hN]; exact Nat.mul_le_mul hPl hKl
  have hmul : IntKind.i64.wrap ((P : Int) * (K : Int)) = (N : Int) := by
    have : (P : Int) * (K : Int) = (N : Int) := by rw [← hN]; simp
    rw [this]; exact IntWalk.i64_in _ (by omega)
  have hmk := fun W => run_make_row' (P := Tryd.prog) 67 4 (.bool false) 1 Tryd.underlying67 boolInfo rfl .i64 .i64 P (by omega) (by omega) W
  obtain ⟨i0, hi0, hz0, hz1', hz2⟩ := info_parts boolsInfo
  have HR := Lib.hid hR
  have HN := Lib.hid hN
  have HPK := Lib.hid (And.intro hP hK)
  clear hR hN hP hK
  go_enter Tryd.func10, Tryd.ntmps10
  go_upto_region 1 with fail
  go_cut [7] (fun s wx => s = .pointer (some ⟨w.heap.size, 0, none⟩) ∧ wx = w.alloc (.cells #[.int .i64 P, .int .i64 K, .slice none 0 0] 42))
  case first =>
    obtain ⟨hP, hK⟩ := HPK.out
    clear HR HN HPK hmk
    rcases hP with ⟨h1, rfl⟩ | ⟨h1, h2, h3⟩ | ⟨h1, _⟩
    · rcases hK with ⟨g1, rfl⟩ | ⟨g1, g2, g3⟩ | ⟨g1, _⟩
      · have a1 : ¬ (64 : Int) < p := by omega
        have a2 : ¬ (64 : Int) < k := by omega
        go_wp2
        go_meet
        exact ⟨rfl, rfl⟩
      · obtain rfl : k = (K : Int) := g3.symm
        have a1 : ¬ (64 : Int) < p := by omega
        go_wp2
        go_meet
        exact ⟨rfl, rfl⟩
      · omega
    · obtain rfl : p = (P : Int) := h3.symm
      rcases hK with ⟨g1, rfl⟩ | ⟨g1, g2, g3⟩ | ⟨g1, _⟩
      · have a2 : ¬ (64 : Int) < k := by omega
        go_wp2
        go_meet
        exact ⟨rfl, rfl⟩
      · obtain rfl : k = (K : Int) := g3.symm
        go_wp2
        go_meet
        exact ⟨rfl, rfl⟩
      · omega
    · omega
  case rest =>
  obtain ⟨rfl, rfl⟩ := hcut
  generalize hb : w.heap.size = b
  have HB0 : Hid (RefB b w b P K 0 ⟨fun _ => 0, fun _ => 0, fun _ => 0⟩ (fun _ _ => false) (.slice none 0 0) (w.alloc (.cells #[.int .i64 P, .int .i64 K, .slice none 0 0] 42))) := by
    subst hb
    exact ⟨heap_alloc_new w _, TailRow.nil _ _ _, fun j hj => absurd hj (Nat.not_lt_zero _), fun j l hj => absurd hj (Nat.not_lt_zero _), (Below.refl _ _).alloc (Nat.le_refl _) _, Nat.le_refl _, fun j hj => absurd hj (Nat.not_lt_zero _), fun k hk => by cases hk⟩
  have HZ : Hid (b ≤ w.heap.size) := by subst hb; exact Nat.le_refl _
  have HBE := Lib.hid hb
  clear hb
  go_wp2_with fail
  go_loopg [8] N (fun g t wr => ∃ (i : Nat) (ao : Option Addr) (cap : Nat) (rb : Rows), i ≤ N ∧ g = N - i ∧ t = .int .i64 i ∧ Hid (RefB b w b P K i rb (fun _ _ => false) (.slice ao i cap) wr))
  case atStart => exact ⟨0, none, 0, _, Nat.zero_le _, rfl, rfl, HB0.out⟩
  case round =>
    clear HB0
    obtain ⟨i, ao, cap, rb, hi, rfl, rfl, hat⟩ := hrel
    by_cases hlt : i < N
    · have hiI : (i : Int) < (N : Int) := by omega
      obtain ⟨m0, m1, m2⟩ := hat.out.cells
      have HKQ : Hid (∀ n, RefB b w b P K i rb (fun _ _ => false) (.slice ao i cap) (wr.drewN n)) := fun n => hat.out.quiet HZ.out (Keeps.drewN (Keeps.refl _ _) n)
      go_wp2_with fail
      go_quiet (fail)
      have hat2 := Lib.hid (HKQ.out nq)
      clear hat HKQ m0 m1 m2
      generalize wr.drewN nq = wr at hat2 ⊢
      obtain ⟨m0, m1, m2⟩ := hat2.out.cells
      have lb : b < wr.heap.size := lt_of_cell m0
      have HKA : Hid ((fun w' => w'.cell? ⟨b, 0, none⟩ = some (.int .i64 P) ∧ w'.cell? ⟨b, 1, none⟩ = some (.int .i64 K)) (wr.drew.alloc (.cells (madeCells #[Value.bool false] P) 4))) := ⟨(hat2.out.quiet HZ.out (((Keeps.refl _ _).drew).alloc _)).cells.1, (hat2.out.quiet HZ.out (((Keeps.refl _ _).drew).alloc _)).cells.2.1⟩
      have HKB : Hid ((fun w' => w'.cell? ⟨b, 0, none⟩ = some (.int .i64 P) ∧ w'.cell? ⟨b, 1, none⟩ = some (.int .i64 K)) ((wr.drew.alloc (.cells (madeCells #[Value.bool false] P) 4)).alloc (.cells #[.slice (some ⟨wr.heap.size, 0, none⟩) P P] 67))) := ⟨(hat2.out.quiet HZ.out ((((Keeps.refl _ _).drew).alloc _).alloc _)).cells.1, (hat2.out.quiet HZ.out ((((Keeps.refl _ _).drew).alloc _).alloc _)).cells.2.1⟩
      have HR2 : Hid (TailRow ((wr.drew.alloc (.cells (madeCells #[Value.bool false] P) 4)).alloc (.cells #[.slice (some ⟨wr.heap.size, 0, none⟩) P P] 67)) 67 1 (.slice ao i cap) i (rowVals rb P i)) := (hat2.out.quiet HZ.out ((((Keeps.refl _ _).drew).alloc _).alloc _)).rows
      have HCN : Hid (∀ (j : Nat) (u : Value), [Value.slice (some ⟨wr.heap.size, 0, none⟩) P P][j]? = some u → (((wr.drew.alloc (.cells (madeCells #[Value.bool false] P) 4)).alloc (.cells #[.slice (some ⟨wr.heap.size, 0, none⟩) P P] 67))).cell? ((⟨wr.heap.size + 1, 0, none⟩ : Addr).add j) = some u) := fun j u hu => by
        have := cells_new (wr.drew.alloc (.cells (madeCells #[Value.bool false] P) 4)) [Value.slice (some ⟨wr.heap.size, 0, none⟩) P P] 67 j u hu
        rw [show ((wr.drew.alloc (.cells (madeCells #[Value.bool false] P) 4))).heap.size = wr.heap.size + 1 from by simp] at this
        exact this
      have HG : Hid (∀ ao' cap' w2, TailRow w2 67 1 (.slice ao' (i + 1) cap') (i + 1) (rowVals rb P i ++ [.slice (some ⟨wr.heap.size, 0, none⟩) P P]) → (((wr.drew.alloc (.cells (madeCells #[Value.bool false] P) 4)).alloc (.cells #[.slice (some ⟨wr.heap.size, 0, none⟩) P P] 67))).grownBy w2 (Value.slice ao i cap).ownBlock → (∀ k, (Value.slice ao' (i + 1) cap').ownBlock = some k → (Value.slice ao i cap).ownBlock = some k ∨ (((wr.drew.alloc (.cells (madeCells #[Value.bool false] P) 4)).alloc (.cells #[.slice (some ⟨wr.heap.size, 0, none⟩) P P] 67))).heap.size ≤ k) →
          (w2.cell? ⟨b, 0, none⟩ = some (.int .i64 P) ∧ w2.cell? ⟨b, 1, none⟩ = some (.int .i64 K) ∧ w2.cell? ⟨b, 2, none⟩ = some (.slice ao i cap)) ∧ w2.frozen? ⟨b, 2, none⟩ = false ∧ Hid (RefB b w b P K (i + 1) (setRow rb i wr.heap.size 0 P) (fun _ _ => false) (.slice ao' (i + 1) cap') (w2.setCell ⟨b, 2, none⟩ (.slice ao' (i + 1) cap')))) := fun ao' cap' w2 h1 h2 h3 => by
        refine hat2.out.grow HZ.out (q := wr.heap.size) ((((Keeps.refl _ _).drew).alloc _).alloc _) ⟨boolRow (fun _ => false) P, ?_, fun d hd => by rw [Nat.zero_add]; exact fnRow_get _ _ _ hd⟩ (Nat.le_refl _) h1 h2 h3
        have h5 := heap_alloc_new wr.drew (.cells (madeCells #[Value.bool false] P) 4)
        have h6 := Below.heap_alloc (wr.drew.alloc (.cells (madeCells #[Value.bool false] P) 4)) (.cells #[.slice (some ⟨wr.heap.size, 0, none⟩) P P] 67) wr.heap.size (by simp)
        refine h6.trans (h5.trans ?_)
        rw [madeRow]; rfl
      clear hat2
      go_upto_region 5 with fail
      refine wp_region_noPanic ?_
      refine wp_region_held_drew (S := fun w' => w'.cell? ⟨b, 0, none⟩ = some (.int .i64 P) ∧ w'.cell? ⟨b, 1, none⟩ = some (.int .i64 K)) (by kernel_rfl) ⟨m0, m1⟩ (fun hHeld => ?_)
      refine wpAnyH_take_at (i := 0) (v := ?v0) rfl (by kernel_rfl) (by kernel_rfl) (by kernel_rfl) (fun _ _ _ h => h) (Or.inl ⟨by rfl, ?y0⟩) hHeld ?r0
      case y0 => (intro w hSw; (try dsimp only at hSw); go_simp; first | done | with_reducible rfl)
      (try simp only [Act.put, List.setIfInBounds_toArray, List.set_cons_zero, List.set_cons_succ])
      refine wpAnyH_take_at (i := 1) (v := ?v1) rfl (by kernel_rfl) (by kernel_rfl) (by kernel_rfl) (fun _ _ _ h => h) (Or.inl ⟨by rfl, ?y1⟩) hHeld ?r1
      case y1 => (intro w hSw; (try dsimp only at hSw); go_simp; first | done | with_reducible rfl)
      (try simp only [Act.put, List.setIfInBounds_toArray, List.set_cons_zero, List.set_cons_succ])
      refine wpAnyH_take_at (i := 2) (v := ?v2) rfl (by kernel_rfl) (by kernel_rfl) (by kernel_rfl) (fun _ _ _ h => h) (Or.inl ⟨by rfl, ?y2⟩) hHeld ?r2
      case y2 => (intro w hSw; (try dsimp only at hSw); go_simp; first | done | with_reducible rfl)
      (try simp only [Act.put, List.setIfInBounds_toArray, List.set_cons_zero, List.set_cons_succ])
      refine wpAnyH_take_at (i := 3) (v := ?v3) rfl (by kernel_rfl) (by kernel_rfl) (by kernel_rfl) (fun _ _ _ h => h) (Or.inl ⟨by rfl, ?y3⟩) hHeld ?r3
      case y3 => (intro w hSw; (try dsimp only at hSw); go_simp; first | done | with_reducible rfl)
      (try simp only [Act.put, List.setIfInBounds_toArray, List.set_cons_zero, List.set_cons_succ])
      refine wpAnyH_take_at (i := 5) (v := ?v5) rfl (by kernel_rfl) (by kernel_rfl) (by kernel_rfl) (fun _ _ _ h => h) (Or.inl ⟨by rfl, ?y5⟩) hHeld ?r5
      case y5 => (intro w hSw; (try dsimp only at hSw); go_simp; first | done | with_reducible rfl)
      (try simp only [Act.put, List.setIfInBounds_toArray, List.set_cons_zero, List.set_cons_succ])
      refine wpAnyH_take_at (i := 6) (v := ?v6) rfl (by kernel_rfl) (by kernel_rfl) (by kernel_rfl) (fun _ _ _ h => h) (Or.inl ⟨by rfl, ?y6⟩) hHeld ?r6
      case y6 => (intro w hSw; (try dsimp only at hSw); go_simp; first | done | with_reducible rfl)
      (try simp only [Act.put, List.setIfInBounds_toArray, List.set_cons_zero, List.set_cons_succ])
      refine wpAnyH_take_at (i := 7) (v := ?v7) rfl (by kernel_rfl) (by kernel_rfl) (by kernel_rfl) (fun _ _ _ h => h) (Or.inl ⟨by rfl, ?y7⟩) hHeld ?r7
      case y7 => (intro w hSw; (try dsimp only at hSw); go_simp; first | done | with_reducible rfl)
      (try simp only [Act.put, List.setIfInBounds_toArray, List.set_cons_zero, List.set_cons_succ])
      refine wpAnyH_take_at (i := 8) (v := ?v8) rfl (by kernel_rfl) (by kernel_rfl) (by kernel_rfl) (fun _ _ _ h => h) (Or.inl ⟨by rfl, ?y8⟩) hHeld ?r8
      case y8 => (intro w hSw; (try dsimp only at hSw); go_simp; first | done | with_reducible rfl)
      (try simp only [Act.put, List.setIfInBounds_toArray, List.set_cons_zero, List.set_cons_succ])
      refine wpAnyH_ready (rs := [4, 9]) (by kernel_rfl) (by simp) (AllReadyH.cons (get_at rfl) (fun K hK => ?_) (AllReadyH.cons (get_at rfl) (fun K hK => ?_) AllReadyH.nil))
      · go_simp
        refine hK.out _ _ ?s4A (fun hHeld => ?_)
        case s4A => exact hHeld
        clear hK K
        (try simp only [Act.put, List.setIfInBounds_toArray, List.set_cons_zero, List.set_cons_succ])
        refine wpAnyH_one (i := 9) (by kernel_rfl) rfl (fun K hK => ?_)
        go_simp
        refine hK.out _ _ ?s9A (fun hHeld => ?_)
        case s9A => exact HKA.out
        clear hK K
        (try simp only [Act.put, List.setIfInBounds_toArray, List.set_cons_zero, List.set_cons_succ])
        refine wpAnyH_one (i := 10) (by kernel_rfl) rfl (fun K hK => ?_)
        go_simp
        refine hK.out _ _ ?s10A (fun hHeld => ?_)
        case s10A => exact HKB.out
        clear hK K
        (try simp only [Act.put, List.setIfInBounds_toArray, List.set_cons_zero, List.set_cons_succ])
        refine wpAnyH_one (i := 11) (by kernel_rfl) rfl (fun K hK => ?_)
        refine step_append_tail rfl (.tmp 37) (.tmp 43) 40 rfl 67 i0 _ 1 24 Tryd.underlying40 hi0 hz0 hz1' hz2 rfl (by decide) (.slice ao i cap) i (rowVals rb P i) (by simp [Act.eval, Act.put]) HR2.out ⟨wr.heap.size + 1, 0, none⟩ 1 1 [.slice (some ⟨wr.heap.size, 0, none⟩) P P] (by simp [Act.eval, Act.put]) rfl HCN.out (by intro u hu; simp only [List.mem_cons, List.not_mem_nil, or_false] at hu; rcases hu with rfl; rfl) (by omega) (by unfold maxLen; omega) (by omega) ?_
        intro ao' cap' w2 hown hgrow hfp
        obtain ⟨⟨e0, e1, e2⟩, e3, HP⟩ := HG.out _ _ _ hown hgrow hfp
        clear hown hgrow hfp
        refine hK.out _ _ ?s11A (fun hHeld => ?_)
        case s11A => exact ⟨e0, e1⟩
        clear hK K
        (try simp only [Act.put, List.setIfInBounds_toArray, List.set_cons_zero, List.set_cons_succ])
        refine wpAnyH_take_at (i := 12) (v := ?v12A) rfl (by kernel_rfl) (by kernel_rfl) (by kernel_rfl) (fun _ _ _ h => h) (Or.inl ⟨by rfl, ?y12A⟩) hHeld ?r12A
        case y12A => (intro w hSw; (try dsimp only at hSw); go_simp; first | done | with_reducible rfl)
        (try simp only [Act.put, List.setIfInBounds_toArray, List.set_cons_zero, List.set_cons_succ])
        refine wpAnyH_take_at (i := 13) (v := ?v13A) rfl (by kernel_rfl) (by kernel_rfl) (by kernel_rfl) (fun _ _ _ h => h) (Or.inl ⟨by rfl, ?y13A⟩) hHeld ?r13A
        case y13A => (intro w hSw; (try dsimp only at hSw); go_simp; first | done | with_reducible rfl)
        (try simp only [Act.put, List.setIfInBounds_toArray, List.set_cons_zero, List.set_cons_succ])
        refine wpAnyH_one (i := 14) (by kernel_rfl) rfl (fun K hK => ?_)
        go_simp
        refine hK.out _ _ ?s14A (fun hHeld => ?_)
        case s14A => exact ⟨HP.out.cells.1, HP.out.cells.2.1⟩
        clear hK K
        (try simp only [Act.put, List.setIfInBounds_toArray, List.set_cons_zero, List.set_cons_succ])
        refine wpAnyH_done (by kernel_rfl) ?_ _
        refine NoPanic.normal ?_
        clear HG HR2 HCN HKA HKB e0 e1 e2 e3
        go_wp2_with fail
        go_roundg (N - (i + 1))
        case measure => omega
        case rel => exact ⟨i + 1, ao', cap', _, by omega, rfl, by go_num, HP⟩
      · go_simp
        refine hK.out _ _ ?s9B (fun hHeld => ?_)
        case s9B => exact HKA.out
        clear hK K
        (try simp only [Act.put, List.setIfInBounds_toArray, List.set_cons_zero, List.set_cons_succ])
        refine wpAnyH_ready (rs := [4, 10]) (by kernel_rfl) (by simp) (AllReadyH.cons (get_at rfl) (fun K hK => ?_) (AllReadyH.cons (get_at rfl) (fun K hK => ?_) AllReadyH.nil))
        · go_simp
          refine hK.out _ _ ?s4B (fun hHeld => ?_)
          case s4B => exact HKA.out
          clear hK K
          (try simp only [Act.put, List.setIfInBounds_toArray, List.set_cons_zero, List.set_cons_succ])
          refine wpAnyH_one (i := 10) (by kernel_rfl) rfl (fun K hK => ?_)
          go_simp
          refine hK.out _ _ ?s10B (fun hHeld => ?_)
          case s10B => exact HKB.out
          clear hK K
          (try simp only [Act.put, List.setIfInBounds_toArray, List.set_cons_zero, List.set_cons_succ])
          refine wpAnyH_one (i := 11) (by kernel_rfl) rfl (fun K hK => ?_)
          refine step_append_tail rfl (.tmp 37) (.tmp 43) 40 rfl 67 i0 _ 1 24 Tryd.underlying40 hi0 hz0 hz1' hz2 rfl (by decide) (.slice ao i cap) i (rowVals rb P i) (by simp [Act.eval, Act.put]) HR2.out ⟨wr.heap.size + 1, 0, none⟩ 1 1 [.slice (some ⟨wr.heap.size, 0, none⟩) P P] (by simp [Act.eval, Act.put]) rfl HCN.out (by intro u hu; simp only [List.mem_cons, List.not_mem_nil, or_false] at hu; rcases hu with rfl; rfl) (by omega) (by unfold maxLen; omega) (by omega) ?_
          intro ao' cap' w2 hown hgrow hfp
          obtain ⟨⟨e0, e1, e2⟩, e3, HP⟩ := HG.out _ _ _ hown hgrow hfp
          clear hown hgrow hfp
          refine hK.out _ _ ?s11B (fun hHeld => ?_)
          case s11B => exact ⟨e0, e1⟩
          clear hK K
          (try simp only [Act.put, List.setIfInBounds_toArray, List.set_cons_zero, List.set_cons_succ])
          refine wpAnyH_take_at (i := 12) (v := ?v12B) rfl (by kernel_rfl) (by kernel_rfl) (by kernel_rfl) (fun _ _ _ h => h) (Or.inl ⟨by rfl, ?y12B⟩) hHeld ?r12B
          case y12B => (intro w hSw; (try dsimp only at hSw); go_simp; first | done | with_reducible rfl)
          (try simp only [Act.put, List.setIfInBounds_toArray, List.set_cons_zero, List.set_cons_succ])
          refine wpAnyH_take_at (i := 13) (v := ?v13B) rfl (by kernel_rfl) (by kernel_rfl) (by kernel_rfl) (fun _ _ _ h => h) (Or.inl ⟨by rfl, ?y13B⟩) hHeld ?r13B
          case y13B => (intro w hSw; (try dsimp only at hSw); go_simp; first | done | with_reducible rfl)
          (try simp only [Act.put, List.setIfInBounds_toArray, List.set_cons_zero, List.set_cons_succ])
          refine wpAnyH_one (i := 14) (by kernel_rfl) rfl (fun K hK => ?_)
          go_simp
          refine hK.out _ _ ?s14B (fun hHeld => ?_)
          case s14B => exact ⟨HP.out.cells.1, HP.out.cells.2.1⟩
          clear hK K
          (try simp only [Act.put, List.setIfInBounds_toArray, List.set_cons_zero, List.set_cons_succ])
          refine wpAnyH_done (by kernel_rfl) ?_ _
          refine NoPanic.normal ?_
          clear HG HR2 HCN HKA HKB e0 e1 e2 e3
          go_wp2_with fail
          go_roundg (N - (i + 1))
          case measure => omega
          case rel => exact ⟨i + 1, ao', cap', _, by omega, rfl, by go_num, HP⟩
        · go_simp
          refine hK.out _ _ ?s10C (fun hHeld => ?_)
          case s10C => exact HKB.out
          clear hK K
          (try simp only [Act.put, List.setIfInBounds_toArray, List.set_cons_zero, List.set_cons_succ])
          refine wpAnyH_one (i := 4) (by kernel_rfl) rfl (fun K hK => ?_)
          go_simp
          refine hK.out _ _ ?s4C (fun hHeld => ?_)
          case s4C => exact HKB.out
          clear hK K
          (try simp only [Act.put, List.setIfInBounds_toArray, List.set_cons_zero, List.set_cons_succ])
          refine wpAnyH_one (i := 11) (by kernel_rfl) rfl (fun K hK => ?_)
          refine step_append_tail rfl (.tmp 37) (.tmp 43) 40 rfl 67 i0 _ 1 24 Tryd.underlying40 hi0 hz0 hz1' hz2 rfl (by decide) (.slice ao i cap) i (rowVals rb P i) (by simp [Act.eval, Act.put]) HR2.out ⟨wr.heap.size + 1, 0, none⟩ 1 1 [.slice (some ⟨wr.heap.size, 0, none⟩) P P] (by simp [Act.eval, Act.put]) rfl HCN.out (by intro u hu; simp only [List.mem_cons, List.not_mem_nil, or_false] at hu; rcases hu with rfl; rfl) (by omega) (by unfold maxLen; omega) (by omega) ?_
          intro ao' cap' w2 hown hgrow hfp
          obtain ⟨⟨e0, e1, e2⟩, e3, HP⟩ := HG.out _ _ _ hown hgrow hfp
          clear hown hgrow hfp
          refine hK.out _ _ ?s11C (fun hHeld => ?_)
          case s11C => exact ⟨e0, e1⟩
          clear hK K
          (try simp only [Act.put, List.setIfInBounds_toArray, List.set_cons_zero, List.set_cons_succ])
          refine wpAnyH_take_at (i := 12) (v := ?v12C) rfl (by kernel_rfl) (by kernel_rfl) (by kernel_rfl) (fun _ _ _ h => h) (Or.inl ⟨by rfl, ?y12C⟩) hHeld ?r12C
          case y12C => (intro w hSw; (try dsimp only at hSw); go_simp; first | done | with_reducible rfl)
          (try simp only [Act.put, List.setIfInBounds_toArray, List.set_cons_zero, List.set_cons_succ])
          refine wpAnyH_take_at (i := 13) (v := ?v13C) rfl (by kernel_rfl) (by kernel_rfl) (by kernel_rfl) (fun _ _ _ h => h) (Or.inl ⟨by rfl, ?y13C⟩) hHeld ?r13C
          case y13C => (intro w hSw; (try dsimp only at hSw); go_simp; first | done | with_reducible rfl)
          (try simp only [Act.put, List.setIfInBounds_toArray, List.set_cons_zero, List.set_cons_succ])
          refine wpAnyH_one (i := 14) (by kernel_rfl) rfl (fun K hK => ?_)
          go_simp
          refine hK.out _ _ ?s14C (fun hHeld => ?_)
          case s14C => exact ⟨HP.out.cells.1, HP.out.cells.2.1⟩
          clear hK K
          (try simp only [Act.put, List.setIfInBounds_toArray, List.set_cons_zero, List.set_cons_succ])
          refine wpAnyH_done (by kernel_rfl) ?_ _
          refine NoPanic.normal ?_
          clear HG HR2 HCN HKA HKB e0 e1 e2 e3
          go_wp2_with fail
          go_roundg (N - (i + 1))
          case measure => omega
          case rel => exact ⟨i + 1, ao', cap', _, by omega, rfl, by go_num, HP⟩
    · obtain rfl : i = N := by omega
      have hiI : ¬ (i : Int) < (i : Int) := by omega
      obtain ⟨m0, m1, m2⟩ := hat.out.cells
      obtain ⟨ao1, cap1, he, hre⟩ := hat.out.done
      cases he
      have HKQ : Hid (∀ n, RefE b w b ao cap rb P K i (fun _ _ => false) (wr.drewN n)) := fun n => hre.quiet HZ.out (Keeps.drewN (Keeps.refl _ _) n)
      clear hre hmk hi0 hz0 hz1' hz2
      go_wp2_with fail
      go_quiet (fail)
      have hat2 := Lib.hid (HKQ.out nq)
      clear hat HKQ m0 m1 m2
      generalize wr.drewN nq = wr at hat2 ⊢
      have HP0 : Hid (SndIn P K (rs.filter (fun r => rightB P K r)) (fun _ _ => false)) := fun i c h => by cases h
      go_wp2_with fail
      go_loopg [9] (P * i + 1) (fun g t wy => ∃ (flag : Bool) (In : Nat → Nat → Bool), t = .bool flag ∧ g = P * i - totIn P i In + (if flag = true then 1 else 0) ∧ Hid (RefE b w b ao cap rb P K i In wy) ∧ Hid (SndIn P K (rs.filter (fun r => rightB P K r)) In) ∧ Hid (flag = false → ∀ r, r ∈ rs → rightB P K r = true → ∀ c, c < P → prem P K r In c = true → In r.head.toNat c = true))
      case atStart => exact ⟨true, fun _ _ => false, rfl, by
        have : totIn P i (fun _ _ => false) = 0 := by
          have h0 : ∀ m, totIn P m (fun _ _ => false) = 0 := fun m => by
            induction m with
            | zero => rfl
            | succ m ih => show totIn P m _ + cnt (fun _ => false) P = 0; rw [ih, cnt_none _ _ (fun _ _ => rfl)]
          exact h0 i
        rw [this]; rfl, hat2.out, HP0.out, fun h => by cases h⟩
      case round =>
        clear hat2 HP0
        obtain ⟨flag, In, rfl, rfl, hre, hsnd, hcl⟩ := hrel
        cases flag with
        | false =>
          have hd : ∀ i c, Der K (rs.filter (fun r => rightB P K r)) i c → In i c = true := fun i c d => closed_all (P := P) (fun r hr => (List.mem_filter.1 hr).2) (fun r hr => hcl.out rfl r (List.mem_filter.1 hr).1 (List.mem_filter.1 hr).2) (fun i c h => (hsnd.out i c h).2.1) d
          have hpost : RefPost P K rs w (.returned (.pointer (some ⟨b, 0, none⟩))) wr := ⟨b, rfl, ao, cap, rb, In, by rw [HBE.out, HN.out]; exact hre.out, hsnd.out, hd⟩
          have HP := Lib.hid hpost
          clear hd hpost hcl hsnd hre HR HPK
          go_wp2_with fail
          go_ret
          exact HP.out
        | true =>
          have HPS : Hid (passTo P K rs In 0 false In) := ⟨hsnd.out, by simp, fun _ => ⟨rfl, fun r hr => by cases hr⟩⟩
          clear hcl
          go_wp2_with fail
          go_loopg [9, 50] n (fun g s t wy => ∃ (j : Nat) (fl : Bool) (In1 : Nat → Nat → Bool), j ≤ n ∧ g = n - j ∧ s = .bool fl ∧ t = .int .i64 j ∧ Hid (RefE b w b ao cap rb P K i In1 wy) ∧ Hid (passTo P K rs In j fl In1))
          case atStart => exact ⟨0, false, In, Nat.zero_le _, rfl, rfl, rfl, hre.out, HPS.out⟩
          case round =>
            clear HPS
            obtain ⟨j, fl, In1, hj, rfl, rfl, rfl, hre1, hps⟩ := hrel
            by_cases hlt2 : j < n
            · obtain ⟨r, hr⟩ : ∃ r, rs[j]? = some r := ⟨_, List.getElem?_eq_getElem (by omega)⟩
              have hrow := HR.out.keeps hre1.out.base (fun b' off he hb' => by have := HBE.out; omega)
              obtain ⟨bb, off, rfl, hbl, hc⟩ := hrow (by omega)
              obtain ⟨c0, c1, c2, c3, c4, c5⟩ := hc j r hr
              have hjI : (j : Int) < (n : Int) := by omega
              obtain ⟨hn1, hn2⟩ := hps.out.next hr
              have HN1 := Lib.hid hn1
              have HN2 := Lib.hid hn2
              obtain ⟨kind, head, hwo, a1, b1, via⟩ := r
              simp only [] at c0 c1 c2 c3 c4 c5
              have hx0 : Hid (RefX b w b ao cap rb P K i wr.heap.size ⟨kind, head, hwo, a1, b1, via⟩ In1 ((wr.alloc (.cells #[.int .i64 kind, .int .i64 head, .int .i64 hwo, .int .i64 a1, .int .i64 b1, .int .i64 via] 29)).drew)) := RefX.start HZ.out hre1.out ⟨kind, head, hwo, a1, b1, via⟩
              have HSC : Hid (∀ I2 W', Hid (RefX b w b ao cap rb P K i wr.heap.size ⟨kind, head, hwo, a1, b1, via⟩ I2 W') → (fun w' => w'.cell? ⟨b, 0, none⟩ = some (.int .i64 P) ∧ w'.cell? ⟨b, 1, none⟩ = some (.int .i64 K) ∧ w'.cell? ⟨wr.heap.size, 0, none⟩ = some (.int .i64 kind) ∧ w'.cell? ⟨wr.heap.size, 1, none⟩ = some (.int .i64 head) ∧ w'.cell? ⟨wr.heap.size, 2, none⟩ = some (.int .i64 hwo) ∧ w'.cell? ⟨wr.heap.size, 3, none⟩ = some (.int .i64 a1) ∧ w'.cell? ⟨wr.heap.size, 4, none⟩ = some (.int .i64 b1) ∧ w'.cell? ⟨wr.heap.size, 5, none⟩ = some (.int .i64 via)) W') := fun I2 W' h => ⟨h.out.e.mem.cells.1, h.out.e.mem.cells.2.1, h.out.rule⟩
              obtain ⟨rbv, hrb⟩ : ∃ x, rightB P K ⟨kind, head, hwo, a1, b1, via⟩ = x := ⟨_, rfl⟩
              have HA : Hid (∀ W', Hid (RefX b w b ao cap rb P K i wr.heap.size ⟨kind, head, hwo, a1, b1, via⟩ In1 W') → Calls Tryd.prog 15 #[.int .i64 P, .int .i64 K, .agg #[.int .i64 kind, .int .i64 head, .int .i64 hwo, .int .i64 a1, .int .i64 b1, .int .i64 via]] W' fun e W'' => e = .returned (.bool rbv) ∧ Hid (RefX b w b ao cap rb P K i wr.heap.size ⟨kind, head, hwo, a1, b1, via⟩ In1 W'')) := fun W' h => by
                rw [← hrb]
                exact (rr_spec W' P K ⟨kind, head, hwo, a1, b1, via⟩).mono fun e W'' ⟨he, hb⟩ => ⟨he, h.out.quiet HZ.out (Keeps.of_below hb (Nat.le_refl _))⟩
              clear hn1 hn2 hrow hc hr hbl hre1 hps
              go_upto_region 12 with fail
              cases rbv with
              | false =>
                have HPN := Lib.hid (HN1.out hrb)
                clear HN1 HN2 c0 c1 c2 c3 c4 c5
                refine wp_region_noPanic ?_
                refine wp_region_held_drew (S := fun w' => w'.cell? ⟨b, 0, none⟩ = some (.int .i64 P) ∧ w'.cell? ⟨b, 1, none⟩ = some (.int .i64 K) ∧ w'.cell? ⟨wr.heap.size, 0, none⟩ = some (.int .i64 kind) ∧ w'.cell? ⟨wr.heap.size, 1, none⟩ = some (.int .i64 head) ∧ w'.cell? ⟨wr.heap.size, 2, none⟩ = some (.int .i64 hwo) ∧ w'.cell? ⟨wr.heap.size, 3, none⟩ = some (.int .i64 a1) ∧ w'.cell? ⟨wr.heap.size, 4, none⟩ = some (.int .i64 b1) ∧ w'.cell? ⟨wr.heap.size, 5, none⟩ = some (.int .i64 via)) (by kernel_rfl) (HSC.out _ _ hx0) (fun hHeld => ?_)
                refine wpAnyH_take_at (i := 0) (v := ?vF0) rfl (by kernel_rfl) (by kernel_rfl) (by kernel_rfl) (fun _ _ _ h => h) (Or.inl ⟨by rfl, ?yF0⟩) hHeld ?rF0
                case yF0 => (intro w hSw; (try dsimp only at hSw); go_simp; first | done | with_reducible rfl)
                (try simp only [Act.put, List.setIfInBounds_toArray, List.set_cons_zero, List.set_cons_succ])
                refine wpAnyH_take_at (i := 1) (v := ?vF1) rfl (by kernel_rfl) (by kernel_rfl) (by kernel_rfl) (fun _ _ _ h => h) (Or.inl ⟨by rfl, ?yF1⟩) hHeld ?rF1
                case yF1 => (intro w hSw; (try dsimp only at hSw); go_simp; first | done | with_reducible rfl)
                (try simp only [Act.put, List.setIfInBounds_toArray, List.set_cons_zero, List.set_cons_succ])
                refine wpAnyH_take_at (i := 2) (v := ?vF2) rfl (by kernel_rfl) (by kernel_rfl) (by kernel_rfl) (fun _ _ _ h => h) (Or.inl ⟨by rfl, ?yF2⟩) hHeld ?rF2
                case yF2 => (intro w hSw; (try dsimp only at hSw); go_simp; first | done | with_reducible rfl)
                (try simp only [Act.put, List.setIfInBounds_toArray, List.set_cons_zero, List.set_cons_succ])
                refine wpAnyH_take_at (i := 3) (v := ?vF3) rfl (by kernel_rfl) (by kernel_rfl) (by kernel_rfl) (fun _ _ _ h => h) (Or.inl ⟨by rfl, ?yF3⟩) hHeld ?rF3
                case yF3 => (intro w hSw; (try dsimp only at hSw); go_simp; first | done | with_reducible rfl)
                (try simp only [Act.put, List.setIfInBounds_toArray, List.set_cons_zero, List.set_cons_succ])
                refine wpAnyH_take_at (i := 4) (v := ?vF4) rfl (by kernel_rfl) (by kernel_rfl) (by kernel_rfl) (fun _ _ _ h => h) (Or.inl ⟨by rfl, ?yF4⟩) hHeld ?rF4
                case yF4 => (intro w hSw; (try dsimp only at hSw); go_simp; first | done | with_reducible rfl)
                (try simp only [Act.put, List.setIfInBounds_toArray, List.set_cons_zero, List.set_cons_succ])
                refine wpAnyH_take_at (i := 5) (v := ?vF5) rfl (by kernel_rfl) (by kernel_rfl) (by kernel_rfl) (fun _ _ _ h => h) (Or.inl ⟨by rfl, ?yF5⟩) hHeld ?rF5
                case yF5 => (intro w hSw; (try dsimp only at hSw); go_simp; first | done | with_reducible rfl)
                (try simp only [Act.put, List.setIfInBounds_toArray, List.set_cons_zero, List.set_cons_succ])
                refine wpAnyH_take_at (i := 6) (v := ?vF6) rfl (by kernel_rfl) (by kernel_rfl) (by kernel_rfl) (fun _ _ _ h => h) (Or.inl ⟨by rfl, ?yF6⟩) hHeld ?rF6
                case yF6 => (intro w hSw; (try dsimp only at hSw); go_simp; first | done | with_reducible rfl)
                (try simp only [Act.put, List.setIfInBounds_toArray, List.set_cons_zero, List.set_cons_succ])
                refine wpAnyH_take_at (i := 7) (v := ?vF7) rfl (by kernel_rfl) (by kernel_rfl) (by kernel_rfl) (fun _ _ _ h => h) (Or.inl ⟨by rfl, ?yF7⟩) hHeld ?rF7
                case yF7 => (intro w hSw; (try dsimp only at hSw); go_simp; first | done | with_reducible rfl)
                (try simp only [Act.put, List.setIfInBounds_toArray, List.set_cons_zero, List.set_cons_succ])
                refine wpAnyH_take_at (i := 8) (v := ?vF8) rfl (by kernel_rfl) (by kernel_rfl) (by kernel_rfl) (fun _ _ _ h => h) (Or.inl ⟨by rfl, ?yF8⟩) hHeld ?rF8
                case yF8 => (intro w hSw; (try dsimp only at hSw); go_simp; first | done | with_reducible rfl)
                (try simp only [Act.put, List.setIfInBounds_toArray, List.set_cons_zero, List.set_cons_succ])
                refine wpAnyH_one (i := 9) (by kernel_rfl) rfl (fun K hK => ?_)
                go_simp
                refine (HA.out _ hx0).mono ?_
                rintro e W3 ⟨rfl, h3⟩
                refine hK.out _ _ ?sF9 (fun hHeld => ?_)
                case sF9 => exact HSC.out _ _ h3
                clear hK K
                (try simp only [Act.put, List.setIfInBounds_toArray, List.set_cons_zero, List.set_cons_succ])
                refine wpAnyH_take_at (i := 10) (v := ?vF10) rfl (by kernel_rfl) (by kernel_rfl) (by kernel_rfl) (fun _ _ _ h => h) (Or.inl ⟨by rfl, ?yF10⟩) hHeld ?rF10
                case yF10 => (intro w hSw; (try dsimp only at hSw); go_simp; first | done | with_reducible rfl)
                (try simp only [Act.put, List.setIfInBounds_toArray, List.set_cons_zero, List.set_cons_succ])
                refine wpAnyH_take_at (i := 11) (v := undef) rfl (by kernel_rfl) (by kernel_rfl) (by kernel_rfl) (fun _ _ _ h => h) (Or.inr ⟨by rfl, rfl⟩) hHeld ?_
                (try simp only [Act.put, List.setIfInBounds_toArray, List.set_cons_zero, List.set_cons_succ])
                refine wpAnyH_take_at (i := 12) (v := undef) rfl (by kernel_rfl) (by kernel_rfl) (by kernel_rfl) (fun _ _ _ h => h) (Or.inr ⟨by rfl, rfl⟩) hHeld ?_
                (try simp only [Act.put, List.setIfInBounds_toArray, List.set_cons_zero, List.set_cons_succ])
                refine wpAnyH_one (i := 13) (by kernel_rfl) rfl (fun K hK => ?_)
                go_simp
                refine hK.out _ _ ?sF13 (fun hHeld => ?_)
                case sF13 => exact hHeld
                clear hK K
                (try simp only [Act.put, List.setIfInBounds_toArray, List.set_cons_zero, List.set_cons_succ])
                refine wpAnyH_take_at (i := 14) (v := ?vF14) rfl (by kernel_rfl) (by kernel_rfl) (by kernel_rfl) (fun _ _ _ h => h) (Or.inl ⟨by rfl, ?yF14⟩) hHeld ?rF14
                case yF14 => (intro w hSw; (try dsimp only at hSw); go_simp; first | done | with_reducible rfl)
                (try simp only [Act.put, List.setIfInBounds_toArray, List.set_cons_zero, List.set_cons_succ])
                refine wpAnyH_done (by kernel_rfl) ?_ _
                refine NoPanic.normal ?_
                have HRE : Hid (RefE b w b ao cap rb P K i In1 W3) := h3.out.e
                clear HA HSC h3 hx0
                go_wp2_with fail
                go_roundg (n - (j + 1))
                case measure => omega
                case rel => exact ⟨j + 1, fl, In1, by omega, rfl, rfl, by go_num, HRE.out, HPN.out⟩
              | true =>
                have HPN := Lib.hid (HN2.out hrb)
                have HO : Hid (∀ W', Hid (RefX b w b ao cap rb P K i wr.heap.size ⟨kind, head, hwo, a1, b1, via⟩ In1 W') → Calls Tryd.prog 33 #[.pointer (some ⟨b, 0, none⟩), .agg #[.int .i64 kind, .int .i64 head, .int .i64 hwo, .int .i64 a1, .int .i64 b1, .int .i64 via]] W' fun e W'' => e = .returned (.bool (onceTo P K ⟨kind, head, hwo, a1, b1, via⟩ In1 P).2) ∧ Hid (RefX b w b ao cap rb P K i wr.heap.size ⟨kind, head, hwo, a1, b1, via⟩ (onceTo P K ⟨kind, head, hwo, a1, b1, via⟩ In1 P).1 W'')) := fun W' h =>
                  (once_spec h.out.e.mem HN.out.symm hPl hKl ⟨kind, head, hwo, a1, b1, via⟩ hrb).mono fun e W'' ⟨he, hm, hk⟩ => ⟨he, h.out.move HZ.out hm hk⟩
                clear HN1 HN2 c0 c1 c2 c3 c4 c5
                generalize onceTo P K ⟨kind, head, hwo, a1, b1, via⟩ In1 P = os at HO HPN
                obtain ⟨In2, mo⟩ := os
                simp only [] at HO HPN
                cases mo with
                | true =>
                  rw [Bool.or_true] at HPN
                  go_region_held3 (fun w' => w'.cell? ⟨b, 0, none⟩ = some (.int .i64 P) ∧ w'.cell? ⟨b, 1, none⟩ = some (.int .i64 K) ∧ w'.cell? ⟨wr.heap.size, 0, none⟩ = some (.int .i64 kind) ∧ w'.cell? ⟨wr.heap.size, 1, none⟩ = some (.int .i64 head) ∧ w'.cell? ⟨wr.heap.size, 2, none⟩ = some (.int .i64 hwo) ∧ w'.cell? ⟨wr.heap.size, 3, none⟩ = some (.int .i64 a1) ∧ w'.cell? ⟨wr.heap.size, 4, none⟩ = some (.int .i64 b1) ∧ w'.cell? ⟨wr.heap.size, 5, none⟩ = some (.int .i64 via)) (exact HSC.out _ _ (by assumption)) (first | (go_at_call 15; refine (HA.out _ (by assumption)).mono ?_; rintro e W3 ⟨rfl, h3⟩) | (go_at_call 33; refine (HO.out _ (by assumption)).mono ?_; rintro e W4 ⟨rfl, h4⟩))
                  have HRE : Hid (RefE b w b ao cap rb P K i In2 W4) := h4.out.e
                  clear HA HO HSC h3 h4 hx0
                  go_wp2_with fail
                  go_roundg (n - (j + 1))
                  case measure => omega
                  case rel => exact ⟨j + 1, true, In2, by omega, rfl, rfl, by go_num, HRE.out, HPN.out⟩
                | false =>
                  rw [Bool.or_false] at HPN
                  go_region_held3 (fun w' => w'.cell? ⟨b, 0, none⟩ = some (.int .i64 P) ∧ w'.cell? ⟨b, 1, none⟩ = some (.int .i64 K) ∧ w'.cell? ⟨wr.heap.size, 0, none⟩ = some (.int .i64 kind) ∧ w'.cell? ⟨wr.heap.size, 1, none⟩ = some (.int .i64 head) ∧ w'.cell? ⟨wr.heap.size, 2, none⟩ = some (.int .i64 hwo) ∧ w'.cell? ⟨wr.heap.size, 3, none⟩ = some (.int .i64 a1) ∧ w'.cell? ⟨wr.heap.size, 4, none⟩ = some (.int .i64 b1) ∧ w'.cell? ⟨wr.heap.size, 5, none⟩ = some (.int .i64 via)) (exact HSC.out _ _ (by assumption)) (first | (go_at_call 15; refine (HA.out _ (by assumption)).mono ?_; rintro e W3 ⟨rfl, h3⟩) | (go_at_call 33; refine (HO.out _ (by assumption)).mono ?_; rintro e W4 ⟨rfl, h4⟩))
                  have HRE : Hid (RefE b w b ao cap rb P K i In2 W4) := h4.out.e
                  clear HA HO HSC h3 h4 hx0
                  go_wp2_with fail
                  go_roundg (n - (j + 1))
                  case measure => omega
                  case rel => exact ⟨j + 1, fl, In2, by omega, rfl, rfl, by go_num, HRE.out, HPN.out⟩
            · obtain rfl : j = n := by omega
              obtain ⟨g1, g2, g3⟩ := hps.out
              have hle := totIn_le P i In1
              rw [HN.out] at g2
              have HG1 := Lib.hid g1
              have HG3 : Hid (fl = false → ∀ r, r ∈ rs → rightB P K r = true → ∀ c, c < P → prem P K r In1 c = true → In1 r.head.toNat c = true) := fun h r hr hR => by
                obtain ⟨e1, e2⟩ := g3 h
                rw [e1]
                exact e2 r (by rw [← hrs, List.take_length]; exact hr) hR
              have HM : Hid (P * i - totIn P i In1 + (if fl = true then 1 else 0) < P * i - totIn P i In + 1) := by
                show P * i - totIn P i In1 + (if fl = true then 1 else 0) < P * i - totIn P i In + 1
                cases fl with
                | true => simp only [if_pos] at g2 ⊢; omega
                | false => simp at g2 ⊢; omega
              clear g1 g2 g3 hps hle
              go_wp2_with fail
              go_roundg (P * i - totIn P i In1 + (if fl = true then 1 else 0))
              case measure => exact HM.out
              case rel => exact ⟨fl, In1, rfl, rfl, hre1.out, HG1.out, HG3.out⟩
end Go.Proofs.YtaabmkebbnkonaaDoor
