/-
  The walk of the document's Holds.
-/
import Derived.Test.YtckjgefpelnkoaaDoorRefPlain
import Derived.Test.YtckjgefpelnkoaaDoorRefOnceLink
import Derived.Deep.RegionHeld3
set_option linter.unusedVariables false
set_option linter.unusedSimpArgs false
set_option linter.unnecessarySimpa false
namespace Go.Proofs.YtckjgefpelnkoaaDoor
open Go.ChangeShapes Go.WideShapes Go.ChangeAt Go.RowKit Go.Deep SetPlain
/-- A model and a rule's box; only new memory has been written. -/
structure HoldR (m : Nat) (ao : Option Addr) (cap : Nat) (rb : Rows) (P K N : Nat) (In : Nat → Nat → Bool) (x : Nat) (r : Rl) (W0 W : World) : Prop where
  mem : RefM W m ao cap rb P K N In
  rule : RlAt W x r
  keep : Keeps (fun _ => False) W0 W
section
variable {W W0 : World} {m : Nat} {ao : Option Addr} {cap : Nat} {rb : Rows} {P K N x : Nat} {r : Rl} {In : Nat → Nat → Bool}
theorem HoldR.quiet (h : HoldR m ao cap rb P K N In x r W0 W) {W' : World} (hk : Keeps (fun _ => False) W W') : HoldR m ao cap rb P K N In x r W0 W' := by
  obtain ⟨r0, r1, r2, r3, r4, r5⟩ := h.rule
  have hx := lt_of_cell r0
  have hc : ∀ i, W'.cell? ⟨x, i, none⟩ = W.cell? ⟨x, i, none⟩ := fun i => hk.cell (p := ⟨x, i, none⟩) hx (fun x => x)
  exact ⟨h.mem.keeps hk, ⟨(hc 0).trans r0, (hc 1).trans r1, (hc 2).trans r2, (hc 3).trans r3, (hc 4).trans r4, (hc 5).trans r5⟩, h.keep.trans hk⟩
theorem HoldR.start (h : RefM W m ao cap rb P K N In) (r : Rl) : HoldR m ao cap rb P K N In W.heap.size r W (W.alloc (ruleObj r)) := by
  have hk : Keeps (fun _ => False) W (W.alloc (ruleObj r)) := (Keeps.refl _ _).alloc _
  refine ⟨h.keeps hk, ?_, hk⟩
  unfold ruleObj RlAt; refine ⟨?_, ?_, ?_, ?_, ?_, ?_⟩ <;> simp
theorem HoldR.below (h : HoldR m ao cap rb P K N In x r W0 W) : Below W0.heap.size W0 W := h.keep.below (Nat.le_refl _) (fun _ _ x => x)
theorem empty_bools (W : World) : TailRow (W.alloc (.cells #[] 4)) 4 1 (.slice (some ⟨W.heap.size, 0, none⟩) 0 0) 0 [] :=
  ⟨rfl, .inr ⟨W.heap.size, 0, 0, #[], rfl, heap_alloc_new W _, Nat.le_refl _, by unfold maxLen; omega, by simp, fun j u hu => by cases hu⟩⟩
set_option maxRecDepth 100000 in
set_option maxHeartbeats 3200000 in
theorem rholds_any (h : RefM W m ao cap rb P K N In) (hN : N = P * K) (hP : P ≤ 64) (hK : K ≤ 64) (kind head who a b via : Int) (res : Bool) (hres : holdsB P K In ⟨kind, head, who, a, b, via⟩ = res) :
    Calls Tryd.prog 15 #[.pointer (some ⟨m, 0, none⟩), .agg #[.int .i64 kind, .int .i64 head, .int .i64 who, .int .i64 a, .int .i64 b, .int .i64 via]] W (RightPost res W) := by
  have hs := HoldR.start h ⟨kind, head, who, a, b, via⟩
  unfold ruleObj at hs
  simp only [] at hs
  have HS0 : Hid (HoldR m ao cap rb P K N In W.heap.size ⟨kind, head, who, a, b, via⟩ W (W.alloc (.cells #[.int .i64 kind, .int .i64 head, .int .i64 who, .int .i64 a, .int .i64 b, .int .i64 via] 25)).drew) := hs.quiet ((Keeps.refl _ _).drew)
  have HSC : Hid (∀ W', Hid (HoldR m ao cap rb P K N In W.heap.size ⟨kind, head, who, a, b, via⟩ W W') → (fun w' : World => w'.cell? ⟨m, 0, none⟩ = some (.int .i64 P) ∧ w'.cell? ⟨m, 1, none⟩ = some (.int .i64 K) ∧ w'.cell? ⟨W.heap.size, 0, none⟩ = some (.int .i64 kind) ∧ w'.cell? ⟨W.heap.size, 1, none⟩ = some (.int .i64 head) ∧ w'.cell? ⟨W.heap.size, 2, none⟩ = some (.int .i64 who) ∧ w'.cell? ⟨W.heap.size, 3, none⟩ = some (.int .i64 a) ∧ w'.cell? ⟨W.heap.size, 4, none⟩ = some (.int .i64 b) ∧ w'.cell? ⟨W.heap.size, 5, none⟩ = some (.int .i64 via)) W') := fun W' h => ⟨h.out.mem.cells.1, h.out.mem.cells.2.1, h.out.rule⟩
  obtain ⟨rbv, hrb⟩ : ∃ x, rightB P K ⟨kind, head, who, a, b, via⟩ = x := ⟨_, rfl⟩
  have HRT : Hid (∀ W', Hid (HoldR m ao cap rb P K N In W.heap.size ⟨kind, head, who, a, b, via⟩ W W') → Calls Tryd.prog 16 #[.int .i64 P, .int .i64 K, .agg #[.int .i64 kind, .int .i64 head, .int .i64 who, .int .i64 a, .int .i64 b, .int .i64 via]] W' fun e w' => e = .returned (.bool rbv) ∧ Hid (HoldR m ao cap rb P K N In W.heap.size ⟨kind, head, who, a, b, via⟩ W w')) := fun W' h => by
    rw [← hrb]
    exact (rr_spec W' P K ⟨kind, head, who, a, b, via⟩).mono fun e w' ⟨he, hb⟩ => ⟨he, h.out.quiet (Keeps.of_below hb (Nat.le_refl _))⟩
  have HRB := Lib.hid hrb
  have HRES := Lib.hid hres
  clear h hs hrb hres
  have hmk := fun W => run_make_row' (P := Tryd.prog) 59 4 (.bool false) 1 Tryd.underlying59 boolInfo rfl .i64 .i64 P (by omega) (by omega) W
  clear hmk
  obtain ⟨i0, hi0, hz0, hz1', hz2⟩ := info_parts boolsInfo
  obtain ⟨i1, hj0, hy0, hy1, hy2⟩ := info_parts boolInfo
  cases rbv with
  | false =>
    have hr : res = false := by rw [← HRES.out]; unfold holdsB; rw [HRB.out]; rfl
    subst hr
    clear hi0 hz0 hz1' hz2 hj0 hy0 hy1 hy2
    go_enter Tryd.func15, Tryd.ntmps15
    go_upto_region 1 with fail
    go_region_held3 (fun w' => w'.cell? ⟨m, 0, none⟩ = some (.int .i64 P) ∧ w'.cell? ⟨m, 1, none⟩ = some (.int .i64 K) ∧ w'.cell? ⟨W.heap.size, 0, none⟩ = some (.int .i64 kind) ∧ w'.cell? ⟨W.heap.size, 1, none⟩ = some (.int .i64 head) ∧ w'.cell? ⟨W.heap.size, 2, none⟩ = some (.int .i64 who) ∧ w'.cell? ⟨W.heap.size, 3, none⟩ = some (.int .i64 a) ∧ w'.cell? ⟨W.heap.size, 4, none⟩ = some (.int .i64 b) ∧ w'.cell? ⟨W.heap.size, 5, none⟩ = some (.int .i64 via)) (exact HSC.out _ (by assumption)) (first | (go_at_call 16; refine (HRT.out _ (by assumption)).mono ?_; rintro e W3 ⟨rfl, h3⟩))
    have HB := Lib.hid h3.out.below
    clear HSC h3 HRT HS0
    go_wp2_with fail
    go_ret
    exact ⟨rfl, HB.out⟩
  | true =>
    have HRO : Hid (∀ W' m' ao' cap' rb', RefM W' m' ao' cap' rb' P K N In → Calls Tryd.prog 24 #[.pointer (some ⟨m', 0, none⟩), .agg #[.int .i64 kind, .int .i64 head, .int .i64 who, .int .i64 a, .int .i64 b, .int .i64 via]] W' fun e W'' => e = .returned (.bool (!res)) ∧ Keeps (refRows rb' N) W' W'') := fun W' m' ao' cap' rb' hm =>
      (once_spec hm hN hP hK ⟨kind, head, who, a, b, via⟩ HRB.out).mono fun e W'' ⟨he, _, hk⟩ => ⟨by rw [he, ← HRES.out, ← once_holds HRB.out, Bool.not_not], hk⟩
    go_enter Tryd.func15, Tryd.ntmps15
    go_upto_region 1 with fail
    go_region_held3 (fun w' => w'.cell? ⟨m, 0, none⟩ = some (.int .i64 P) ∧ w'.cell? ⟨m, 1, none⟩ = some (.int .i64 K) ∧ w'.cell? ⟨W.heap.size, 0, none⟩ = some (.int .i64 kind) ∧ w'.cell? ⟨W.heap.size, 1, none⟩ = some (.int .i64 head) ∧ w'.cell? ⟨W.heap.size, 2, none⟩ = some (.int .i64 who) ∧ w'.cell? ⟨W.heap.size, 3, none⟩ = some (.int .i64 a) ∧ w'.cell? ⟨W.heap.size, 4, none⟩ = some (.int .i64 b) ∧ w'.cell? ⟨W.heap.size, 5, none⟩ = some (.int .i64 via)) (exact HSC.out _ (by assumption)) (first | (go_at_call 16; refine (HRT.out _ (by assumption)).mono ?_; rintro e W3 ⟨rfl, h3⟩))
    clear HRT HS0
    obtain ⟨m0, m1, q0, q1, q2, q3, q4, q5⟩ := HSC.out _ h3
    have m2 := h3.out.mem.cells.2.2
    go_upto_region 3 with fail
    go_region
    have HB0 : Hid (RefB W3.heap.size W3 W3.heap.size P K 0 ⟨fun _ => 0, fun _ => 0, fun _ => 0⟩ In (.slice none 0 0) (W3.alloc (.cells #[.int .i64 P, .int .i64 K, .slice none 0 0] 34)).drew) :=
      RefB.quiet (Nat.le_refl _) ⟨heap_alloc_new W3 _, TailRow.nil _ _ _, fun j hj => absurd hj (Nat.not_lt_zero _), fun j l hj => absurd hj (Nat.not_lt_zero _), (Below.refl _ _).alloc (Nat.le_refl _) _, Nat.le_refl _, fun j hj => absurd hj (Nat.not_lt_zero _), fun k hk => by cases hk⟩ ((Keeps.refl _ _).drew)
    have lm : m < W3.heap.size := lt_of_cell m0
    generalize hb2 : W3.heap.size = b2 at HB0 ⊢
    have HB2 := Lib.hid hb2
    have HH : Hid (∀ W', Below b2 W3 W' → HoldR m ao cap rb P K N In W.heap.size ⟨kind, head, who, a, b, via⟩ W W') := fun W' hb => h3.out.quiet (Keeps.of_below hb (by rw [HB2.out]; exact Nat.le_refl _))
    have HZ : Hid (b2 ≤ W3.heap.size) := by rw [HB2.out]; exact Nat.le_refl _
    clear h3 hb2
    go_wp2_with fail
    go_loopg [34] N (fun g t wr => ∃ (j : Nat) (ao2 : Option Addr) (cap2 : Nat) (rb2 : Rows), j ≤ N ∧ g = N - j ∧ t = .int .i64 j ∧ Hid (RefB b2 W3 b2 P K j rb2 In (.slice ao2 j cap2) wr))
    case atStart => exact ⟨0, none, 0, _, Nat.zero_le _, rfl, rfl, HB0.out⟩
    case round =>
      clear HB0 m0 m1 m2 q0 q1 q2 q3 q4 q5
      obtain ⟨j, ao2, cap2, rb2, hj, rfl, rfl, hat⟩ := hrel
      have hNle : N ≤ 64 * 64 := by rw [hN]; exact Nat.mul_le_mul hP hK
      by_cases hlt : j < N
      · have hjI : (j : Int) < (N : Int) := by omega
        have hPpos : 0 < P := by
          rcases Nat.eq_zero_or_pos P with h0 | h0
          · rw [h0, Nat.zero_mul] at hN; omega
          · exact h0
        have hh := HH.out wr hat.out.base
        obtain ⟨g, k, cur, rfl, hg, hcur⟩ := hh.mem.ptr (by omega)
        have cp : wr.cell? ⟨g, k + j, none⟩ = some (.slice (some ⟨rb.blk j, rb.off j, none⟩) P (rb.cp j)) := by rw [cell_of_heap hg]; exact hcur j hlt
        obtain ⟨n0, n1, n2⟩ := hat.out.cells
        have lb : b2 < wr.heap.size := lt_of_cell n0
        have HE7 : Hid (TailRow (wr.drew.alloc (.cells #[] 4)) 4 1 (.slice (some ⟨wr.heap.size, 0, none⟩) 0 0) 0 []) := empty_bools wr.drew
        have HN7 : Hid (∀ (d : Nat) (u : Value), ((List.range P).map (fun d => Value.bool (In j d)))[d]? = some u → (wr.drew.alloc (.cells #[] 4)).cell? ((⟨rb.blk j, rb.off j, none⟩ : Addr).add d) = some u) := fun d u hu => by
          have hd : d < P := by
            rcases Nat.lt_or_ge d P with h | h
            · exact h
            · rw [List.getElem?_eq_none (by simpa using h)] at hu; cases hu
          rw [List.getElem?_map, List.getElem?_range hd] at hu
          cases hu
          rw [add_plain]
          exact (hh.mem.keeps (((Keeps.refl _ _).drew).alloc _)).bit hlt hd
        have HG7 : Hid (∀ ao' cap' w2, TailRow w2 4 1 (.slice ao' (0 + P) cap') (0 + P) ([] ++ (List.range P).map (fun d => Value.bool (In j d))) → (wr.drew.alloc (.cells #[] 4)).grownBy w2 (Value.slice (some ⟨wr.heap.size, 0, none⟩) 0 0).ownBlock → (∀ k, (Value.slice ao' (0 + P) cap').ownBlock = some k → (Value.slice (some ⟨wr.heap.size, 0, none⟩) 0 0).ownBlock = some k ∨ (wr.drew.alloc (.cells #[] 4)).heap.size ≤ k) →
            ∃ q o, ao' = some ⟨q, o, none⟩ ∧ Hid (Keeps (fun _ => False) wr w2 ∧ wr.heap.size ≤ q ∧ ∃ cur, w2.heap[q]? = some (.cells cur 4 (0, 0)) ∧ ∀ d, d < P → cur[o + d]? = some (.bool (In j d))) ∧ w2.cell? ⟨b2, 2, none⟩ = some (.slice ao2 j cap2) ∧ b2 < w2.heap.size) := fun ao' cap' w2 h1 h2 h3 => by
          have hk2 : Keeps (fun _ => False) wr w2 := Keeps.trans_new (((Keeps.refl _ _).drew).alloc _) (keeps_grown h2) (fun i hi x => by simp only [Value.ownBlock, Option.some.injEq] at x; omega)
          obtain ⟨hlen, ⟨hv, h0⟩ | ⟨q, o, cap8, cur, hv, hq, _, _, _, hc⟩⟩ := h1
          · omega
          · cases hv
            refine ⟨q, o, rfl, ⟨hk2, ?_, cur, hq, fun d hd => hc d _ ?_⟩, (hk2.cell (p := ⟨b2, 2, none⟩) lb (fun x => x)).trans n2, Nat.lt_of_lt_of_le lb hk2.size⟩
            · rcases h3 q rfl with x | x
              · simp only [Value.ownBlock, Option.some.injEq] at x; omega
              · have : wr.heap.size ≤ (wr.drew.alloc (.cells #[] 4)).heap.size := by simp
                omega
            · rw [List.nil_append, List.getElem?_map, List.getElem?_range hd]; rfl
        have HA9 : Hid (∀ q o cap' w2, Hid (Keeps (fun _ => False) wr w2 ∧ wr.heap.size ≤ q ∧ ∃ cur, w2.heap[q]? = some (.cells cur 4 (0, 0)) ∧ ∀ d, d < P → cur[o + d]? = some (.bool (In j d))) →
            Hid (TailRow (w2.alloc (.cells #[.slice (some ⟨q, o, none⟩) P cap'] 59)) 59 1 (.slice ao2 j cap2) j (rowVals rb2 P j)) ∧ Hid (∀ (i : Nat) (u : Value), [Value.slice (some ⟨q, o, none⟩) P cap'][i]? = some u → (w2.alloc (.cells #[.slice (some ⟨q, o, none⟩) P cap'] 59)).cell? ((⟨w2.heap.size, 0, none⟩ : Addr).add i) = some u) ∧
            Hid (∀ ao9 cap9 w4, TailRow w4 59 1 (.slice ao9 (j + 1) cap9) (j + 1) (rowVals rb2 P j ++ [.slice (some ⟨q, o, none⟩) P cap']) → (w2.alloc (.cells #[.slice (some ⟨q, o, none⟩) P cap'] 59)).grownBy w4 (Value.slice ao2 j cap2).ownBlock → (∀ k, (Value.slice ao9 (j + 1) cap9).ownBlock = some k → (Value.slice ao2 j cap2).ownBlock = some k ∨ (w2.alloc (.cells #[.slice (some ⟨q, o, none⟩) P cap'] 59)).heap.size ≤ k) →
              (w4.cell? ⟨b2, 0, none⟩ = some (.int .i64 P) ∧ w4.cell? ⟨b2, 1, none⟩ = some (.int .i64 K) ∧ w4.cell? ⟨b2, 2, none⟩ = some (.slice ao2 j cap2)) ∧ w4.frozen? ⟨b2, 2, none⟩ = false ∧ Hid (RefB b2 W3 b2 P K (j + 1) (setRow rb2 j q o cap') In (.slice ao9 (j + 1) cap9) (w4.setCell ⟨b2, 2, none⟩ (.slice ao9 (j + 1) cap9))))) := fun q o cap' w2 hg2 => by
          obtain ⟨hk2, hq1, cur, hq2, hq3⟩ := hg2.out
          have hk3 := hk2.alloc (.cells #[.slice (some ⟨q, o, none⟩) P cap'] 59)
          refine ⟨(hat.out.quiet HZ.out hk3).rows, cells_new w2 _ _, fun ao9 cap9 w4 h1 h2 h3 => hat.out.grow HZ.out hk3 ⟨cur, ?_, hq3⟩ hq1 h1 h2 h3⟩
          exact (Below.heap_alloc w2 _ q (lt_of_heap hq2)).trans hq2
        clear hh hg hcur hat
        go_upto_region 7 with fail
        clear cp n0 n1
        refine wp_region_noPanic ?_
        refine wp_region_held_drew (S := fun _ => True) (by kernel_rfl) trivial (fun hHeld => ?_)
        refine wpAnyH_take_at (i := 0) (v := ?v0) rfl (by kernel_rfl) (by kernel_rfl) (by kernel_rfl) (fun _ _ _ h => h) (Or.inl ⟨by rfl, ?y0⟩) hHeld ?r0
        case y0 => (intro w hSw; (try dsimp only at hSw); go_simp; first | done | with_reducible rfl)
        (try simp only [Act.put, List.setIfInBounds_toArray, List.set_cons_zero, List.set_cons_succ])
        refine wpAnyH_take_at (i := 1) (v := ?v1) rfl (by kernel_rfl) (by kernel_rfl) (by kernel_rfl) (fun _ _ _ h => h) (Or.inl ⟨by rfl, ?y1⟩) hHeld ?r1
        case y1 => (intro w hSw; (try dsimp only at hSw); go_simp; first | done | with_reducible rfl)
        (try simp only [Act.put, List.setIfInBounds_toArray, List.set_cons_zero, List.set_cons_succ])
        refine wpAnyH_take_at (i := 2) (v := ?v2) rfl (by kernel_rfl) (by kernel_rfl) (by kernel_rfl) (fun _ _ _ h => h) (Or.inl ⟨by rfl, ?y2⟩) hHeld ?r2
        case y2 => (intro w hSw; (try dsimp only at hSw); go_simp; first | done | with_reducible rfl)
        (try simp only [Act.put, List.setIfInBounds_toArray, List.set_cons_zero, List.set_cons_succ])
        refine wpAnyH_take_at (i := 3) (v := ?v3) rfl (by kernel_rfl) (by kernel_rfl) (by kernel_rfl) (fun _ _ _ h => h) (Or.inl ⟨by rfl, ?y3⟩) hHeld ?r3
        case y3 => (intro w hSw; (try dsimp only at hSw); go_simp; first | done | with_reducible rfl)
        (try simp only [Act.put, List.setIfInBounds_toArray, List.set_cons_zero, List.set_cons_succ])
        refine wpAnyH_take_at (i := 6) (v := ?v6) rfl (by kernel_rfl) (by kernel_rfl) (by kernel_rfl) (fun _ _ _ h => h) (Or.inl ⟨by rfl, ?y6⟩) hHeld ?r6
        case y6 => (intro w hSw; (try dsimp only at hSw); go_simp; first | done | with_reducible rfl)
        (try simp only [Act.put, List.setIfInBounds_toArray, List.set_cons_zero, List.set_cons_succ])
        refine wpAnyH_ready (rs := [4, 5]) (by kernel_rfl) (by simp) (AllReadyH.cons (get_at rfl) (fun K hK => ?_) (AllReadyH.cons (get_at rfl) (fun K hK => ?_) AllReadyH.nil))
        · skip
          go_simp
          refine hK.out _ _ ?s4A (fun hHeld => ?_)
          case s4A => exact trivial
          clear hK K
          (try simp only [Act.put, List.setIfInBounds_toArray, List.set_cons_zero, List.set_cons_succ])
          refine wpAnyH_one (i := 5) (by kernel_rfl) rfl (fun K hK => ?_)
          go_simp
          refine hK.out _ _ ?s5A (fun hHeld => ?_)
          case s5A => exact trivial
          clear hK K
          (try simp only [Act.put, List.setIfInBounds_toArray, List.set_cons_zero, List.set_cons_succ])
          refine wpAnyH_one (i := 7) (by kernel_rfl) rfl (fun K hK => ?_)
          refine step_append_tail rfl (.tmp 43) (.tmp 44) 59 rfl 4 i1 _ 1 1 Tryd.underlying59 hj0 hy0 hy1 hy2 rfl (by decide) (.slice (some ⟨wr.heap.size, 0, none⟩) 0 0) 0 [] (by simp [Act.eval, Act.put]) HE7.out ⟨rb.blk j, rb.off j, none⟩ P (rb.cp j) ((List.range P).map (fun d => Value.bool (In j d))) (by simp [Act.eval, Act.put]) (by simp) HN7.out (by intro u hu; obtain ⟨d, _, rfl⟩ := List.mem_map.1 hu; rfl) (by omega) (by unfold maxLen; omega) (by omega) ?_
          intro ao7 cap7 w2 hown hgrow hfp
          obtain ⟨q, o, he7, HG2, c2w, lbw⟩ := HG7.out _ _ _ hown hgrow hfp
          subst he7
          clear hown hgrow hfp
          refine hK.out _ _ ?s7A (fun hHeld => ?_)
          case s7A => exact trivial
          clear hK K
          (try simp only [Act.put, List.setIfInBounds_toArray, List.set_cons_zero, List.set_cons_succ])
          refine wpAnyH_one (i := 8) (by kernel_rfl) rfl (fun K hK => ?_)
          go_simp
          refine hK.out _ _ ?s8A (fun hHeld => ?_)
          case s8A => exact trivial
          clear hK K
          (try simp only [Act.put, List.setIfInBounds_toArray, List.set_cons_zero, List.set_cons_succ])
          refine wpAnyH_one (i := 9) (by kernel_rfl) rfl (fun K hK => ?_)
          obtain ⟨HR9, HC9, HG9⟩ := HA9.out q o cap7 w2 HG2
          refine step_append_tail rfl (.tmp 42) (.tmp 46) 32 rfl 59 i0 _ 1 24 Tryd.underlying32 hi0 hz0 hz1' hz2 rfl (by decide) (.slice ao2 j cap2) j (rowVals rb2 P j) (by simp [Act.eval, Act.put]) HR9.out ⟨w2.heap.size, 0, none⟩ 1 1 [.slice (some ⟨q, o, none⟩) P cap7] (by simp [Act.eval, Act.put]) rfl HC9.out (by intro u hu; simp only [List.mem_cons, List.not_mem_nil, or_false] at hu; rcases hu with rfl; rfl) (by omega) (by unfold maxLen; omega) (by omega) ?_
          intro ao9 cap9 w4 hown hgrow hfp
          obtain ⟨⟨e0, e1, e2⟩, e3, HP⟩ := HG9.out _ _ _ hown hgrow hfp
          clear hown hgrow hfp
          refine hK.out _ _ ?s9A (fun hHeld => ?_)
          case s9A => exact trivial
          clear hK K
          (try simp only [Act.put, List.setIfInBounds_toArray, List.set_cons_zero, List.set_cons_succ])
          refine wpAnyH_take_at (i := 10) (v := ?v10A) rfl (by kernel_rfl) (by kernel_rfl) (by kernel_rfl) (fun _ _ _ h => h) (Or.inl ⟨by rfl, ?y10A⟩) hHeld ?r10A
          case y10A => (intro w hSw; (try dsimp only at hSw); go_simp; first | done | with_reducible rfl)
          (try simp only [Act.put, List.setIfInBounds_toArray, List.set_cons_zero, List.set_cons_succ])
          refine wpAnyH_take_at (i := 11) (v := ?v11A) rfl (by kernel_rfl) (by kernel_rfl) (by kernel_rfl) (fun _ _ _ h => h) (Or.inl ⟨by rfl, ?y11A⟩) hHeld ?r11A
          case y11A => (intro w hSw; (try dsimp only at hSw); go_simp; first | done | with_reducible rfl)
          (try simp only [Act.put, List.setIfInBounds_toArray, List.set_cons_zero, List.set_cons_succ])
          refine wpAnyH_one (i := 12) (by kernel_rfl) rfl (fun K hK => ?_)
          go_simp
          refine hK.out _ _ ?s12A (fun hHeld => ?_)
          case s12A => exact trivial
          clear hK K
          (try simp only [Act.put, List.setIfInBounds_toArray, List.set_cons_zero, List.set_cons_succ])
          refine wpAnyH_done (by kernel_rfl) ?_ _
          refine NoPanic.normal ?_
          clear HA9 HG9 HR9 HC9 HG7 HE7 HN7 HG2 c2w lbw e0 e1 e2 e3
          go_wp2_with fail
          go_roundg (N - (j + 1))
          case measure => omega
          case rel => exact ⟨j + 1, ao9, cap9, _, by omega, rfl, by go_num, HP⟩
        · skip
          go_simp
          refine hK.out _ _ ?s5B (fun hHeld => ?_)
          case s5B => exact trivial
          clear hK K
          (try simp only [Act.put, List.setIfInBounds_toArray, List.set_cons_zero, List.set_cons_succ])
          refine wpAnyH_ready (rs := [4, 7]) (by kernel_rfl) (by simp) (AllReadyH.cons (get_at rfl) (fun K hK => ?_) (AllReadyH.cons (get_at rfl) (fun K hK => ?_) AllReadyH.nil))
          · skip
            go_simp
            refine hK.out _ _ ?s4B (fun hHeld => ?_)
            case s4B => exact trivial
            clear hK K
            (try simp only [Act.put, List.setIfInBounds_toArray, List.set_cons_zero, List.set_cons_succ])
            refine wpAnyH_one (i := 7) (by kernel_rfl) rfl (fun K hK => ?_)
            refine step_append_tail rfl (.tmp 43) (.tmp 44) 59 rfl 4 i1 _ 1 1 Tryd.underlying59 hj0 hy0 hy1 hy2 rfl (by decide) (.slice (some ⟨wr.heap.size, 0, none⟩) 0 0) 0 [] (by simp [Act.eval, Act.put]) HE7.out ⟨rb.blk j, rb.off j, none⟩ P (rb.cp j) ((List.range P).map (fun d => Value.bool (In j d))) (by simp [Act.eval, Act.put]) (by simp) HN7.out (by intro u hu; obtain ⟨d, _, rfl⟩ := List.mem_map.1 hu; rfl) (by omega) (by unfold maxLen; omega) (by omega) ?_
            intro ao7 cap7 w2 hown hgrow hfp
            obtain ⟨q, o, he7, HG2, c2w, lbw⟩ := HG7.out _ _ _ hown hgrow hfp
            subst he7
            clear hown hgrow hfp
            refine hK.out _ _ ?s7B (fun hHeld => ?_)
            case s7B => exact trivial
            clear hK K
            (try simp only [Act.put, List.setIfInBounds_toArray, List.set_cons_zero, List.set_cons_succ])
            refine wpAnyH_one (i := 8) (by kernel_rfl) rfl (fun K hK => ?_)
            go_simp
            refine hK.out _ _ ?s8B (fun hHeld => ?_)
            case s8B => exact trivial
            clear hK K
            (try simp only [Act.put, List.setIfInBounds_toArray, List.set_cons_zero, List.set_cons_succ])
            refine wpAnyH_one (i := 9) (by kernel_rfl) rfl (fun K hK => ?_)
            obtain ⟨HR9, HC9, HG9⟩ := HA9.out q o cap7 w2 HG2
            refine step_append_tail rfl (.tmp 42) (.tmp 46) 32 rfl 59 i0 _ 1 24 Tryd.underlying32 hi0 hz0 hz1' hz2 rfl (by decide) (.slice ao2 j cap2) j (rowVals rb2 P j) (by simp [Act.eval, Act.put]) HR9.out ⟨w2.heap.size, 0, none⟩ 1 1 [.slice (some ⟨q, o, none⟩) P cap7] (by simp [Act.eval, Act.put]) rfl HC9.out (by intro u hu; simp only [List.mem_cons, List.not_mem_nil, or_false] at hu; rcases hu with rfl; rfl) (by omega) (by unfold maxLen; omega) (by omega) ?_
            intro ao9 cap9 w4 hown hgrow hfp
            obtain ⟨⟨e0, e1, e2⟩, e3, HP⟩ := HG9.out _ _ _ hown hgrow hfp
            clear hown hgrow hfp
            refine hK.out _ _ ?s9B (fun hHeld => ?_)
            case s9B => exact trivial
            clear hK K
            (try simp only [Act.put, List.setIfInBounds_toArray, List.set_cons_zero, List.set_cons_succ])
            refine wpAnyH_take_at (i := 10) (v := ?v10B) rfl (by kernel_rfl) (by kernel_rfl) (by kernel_rfl) (fun _ _ _ h => h) (Or.inl ⟨by rfl, ?y10B⟩) hHeld ?r10B
            case y10B => (intro w hSw; (try dsimp only at hSw); go_simp; first | done | with_reducible rfl)
            (try simp only [Act.put, List.setIfInBounds_toArray, List.set_cons_zero, List.set_cons_succ])
            refine wpAnyH_take_at (i := 11) (v := ?v11B) rfl (by kernel_rfl) (by kernel_rfl) (by kernel_rfl) (fun _ _ _ h => h) (Or.inl ⟨by rfl, ?y11B⟩) hHeld ?r11B
            case y11B => (intro w hSw; (try dsimp only at hSw); go_simp; first | done | with_reducible rfl)
            (try simp only [Act.put, List.setIfInBounds_toArray, List.set_cons_zero, List.set_cons_succ])
            refine wpAnyH_one (i := 12) (by kernel_rfl) rfl (fun K hK => ?_)
            go_simp
            refine hK.out _ _ ?s12B (fun hHeld => ?_)
            case s12B => exact trivial
            clear hK K
            (try simp only [Act.put, List.setIfInBounds_toArray, List.set_cons_zero, List.set_cons_succ])
            refine wpAnyH_done (by kernel_rfl) ?_ _
            refine NoPanic.normal ?_
            clear HA9 HG9 HR9 HC9 HG7 HE7 HN7 HG2 c2w lbw e0 e1 e2 e3
            go_wp2_with fail
            go_roundg (N - (j + 1))
            case measure => omega
            case rel => exact ⟨j + 1, ao9, cap9, _, by omega, rfl, by go_num, HP⟩
          · skip
            refine step_append_tail rfl (.tmp 43) (.tmp 44) 59 rfl 4 i1 _ 1 1 Tryd.underlying59 hj0 hy0 hy1 hy2 rfl (by decide) (.slice (some ⟨wr.heap.size, 0, none⟩) 0 0) 0 [] (by simp [Act.eval, Act.put]) HE7.out ⟨rb.blk j, rb.off j, none⟩ P (rb.cp j) ((List.range P).map (fun d => Value.bool (In j d))) (by simp [Act.eval, Act.put]) (by simp) HN7.out (by intro u hu; obtain ⟨d, _, rfl⟩ := List.mem_map.1 hu; rfl) (by omega) (by unfold maxLen; omega) (by omega) ?_
            intro ao7 cap7 w2 hown hgrow hfp
            obtain ⟨q, o, he7, HG2, c2w, lbw⟩ := HG7.out _ _ _ hown hgrow hfp
            subst he7
            clear hown hgrow hfp
            refine hK.out _ _ ?s7C (fun hHeld => ?_)
            case s7C => exact trivial
            clear hK K
            (try simp only [Act.put, List.setIfInBounds_toArray, List.set_cons_zero, List.set_cons_succ])
            refine wpAnyH_ready (rs := [4, 8]) (by kernel_rfl) (by simp) (AllReadyH.cons (get_at rfl) (fun K hK => ?_) (AllReadyH.cons (get_at rfl) (fun K hK => ?_) AllReadyH.nil))
            · skip
              go_simp
              refine hK.out _ _ ?s4C (fun hHeld => ?_)
              case s4C => exact trivial
              clear hK K
              (try simp only [Act.put, List.setIfInBounds_toArray, List.set_cons_zero, List.set_cons_succ])
              refine wpAnyH_one (i := 8) (by kernel_rfl) rfl (fun K hK => ?_)
              go_simp
              refine hK.out _ _ ?s8C (fun hHeld => ?_)
              case s8C => exact trivial
              clear hK K
              (try simp only [Act.put, List.setIfInBounds_toArray, List.set_cons_zero, List.set_cons_succ])
              refine wpAnyH_one (i := 9) (by kernel_rfl) rfl (fun K hK => ?_)
              obtain ⟨HR9, HC9, HG9⟩ := HA9.out q o cap7 w2 HG2
              refine step_append_tail rfl (.tmp 42) (.tmp 46) 32 rfl 59 i0 _ 1 24 Tryd.underlying32 hi0 hz0 hz1' hz2 rfl (by decide) (.slice ao2 j cap2) j (rowVals rb2 P j) (by simp [Act.eval, Act.put]) HR9.out ⟨w2.heap.size, 0, none⟩ 1 1 [.slice (some ⟨q, o, none⟩) P cap7] (by simp [Act.eval, Act.put]) rfl HC9.out (by intro u hu; simp only [List.mem_cons, List.not_mem_nil, or_false] at hu; rcases hu with rfl; rfl) (by omega) (by unfold maxLen; omega) (by omega) ?_
              intro ao9 cap9 w4 hown hgrow hfp
              obtain ⟨⟨e0, e1, e2⟩, e3, HP⟩ := HG9.out _ _ _ hown hgrow hfp
              clear hown hgrow hfp
              refine hK.out _ _ ?s9C (fun hHeld => ?_)
              case s9C => exact trivial
              clear hK K
              (try simp only [Act.put, List.setIfInBounds_toArray, List.set_cons_zero, List.set_cons_succ])
              refine wpAnyH_take_at (i := 10) (v := ?v10C) rfl (by kernel_rfl) (by kernel_rfl) (by kernel_rfl) (fun _ _ _ h => h) (Or.inl ⟨by rfl, ?y10C⟩) hHeld ?r10C
              case y10C => (intro w hSw; (try dsimp only at hSw); go_simp; first | done | with_reducible rfl)
              (try simp only [Act.put, List.setIfInBounds_toArray, List.set_cons_zero, List.set_cons_succ])
              refine wpAnyH_take_at (i := 11) (v := ?v11C) rfl (by kernel_rfl) (by kernel_rfl) (by kernel_rfl) (fun _ _ _ h => h) (Or.inl ⟨by rfl, ?y11C⟩) hHeld ?r11C
              case y11C => (intro w hSw; (try dsimp only at hSw); go_simp; first | done | with_reducible rfl)
              (try simp only [Act.put, List.setIfInBounds_toArray, List.set_cons_zero, List.set_cons_succ])
              refine wpAnyH_one (i := 12) (by kernel_rfl) rfl (fun K hK => ?_)
              go_simp
              refine hK.out _ _ ?s12C (fun hHeld => ?_)
              case s12C => exact trivial
              clear hK K
              (try simp only [Act.put, List.setIfInBounds_toArray, List.set_cons_zero, List.set_cons_succ])
              refine wpAnyH_done (by kernel_rfl) ?_ _
              refine NoPanic.normal ?_
              clear HA9 HG9 HR9 HC9 HG7 HE7 HN7 HG2 c2w lbw e0 e1 e2 e3
              go_wp2_with fail
              go_roundg (N - (j + 1))
              case measure => omega
              case rel => exact ⟨j + 1, ao9, cap9, _, by omega, rfl, by go_num, HP⟩
            · skip
              go_simp
              refine hK.out _ _ ?s8D (fun hHeld => ?_)
              case s8D => exact trivial
              clear hK K
              (try simp only [Act.put, List.setIfInBounds_toArray, List.set_cons_zero, List.set_cons_succ])
              refine wpAnyH_one (i := 4) (by kernel_rfl) rfl (fun K hK => ?_)
              go_simp
              refine hK.out _ _ ?s4D (fun hHeld => ?_)
              case s4D => exact trivial
              clear hK K
              (try simp only [Act.put, List.setIfInBounds_toArray, List.set_cons_zero, List.set_cons_succ])
              refine wpAnyH_one (i := 9) (by kernel_rfl) rfl (fun K hK => ?_)
              obtain ⟨HR9, HC9, HG9⟩ := HA9.out q o cap7 w2 HG2
              refine step_append_tail rfl (.tmp 42) (.tmp 46) 32 rfl 59 i0 _ 1 24 Tryd.underlying32 hi0 hz0 hz1' hz2 rfl (by decide) (.slice ao2 j cap2) j (rowVals rb2 P j) (by simp [Act.eval, Act.put]) HR9.out ⟨w2.heap.size, 0, none⟩ 1 1 [.slice (some ⟨q, o, none⟩) P cap7] (by simp [Act.eval, Act.put]) rfl HC9.out (by intro u hu; simp only [List.mem_cons, List.not_mem_nil, or_false] at hu; rcases hu with rfl; rfl) (by omega) (by unfold maxLen; omega) (by omega) ?_
              intro ao9 cap9 w4 hown hgrow hfp
              obtain ⟨⟨e0, e1, e2⟩, e3, HP⟩ := HG9.out _ _ _ hown hgrow hfp
              clear hown hgrow hfp
              refine hK.out _ _ ?s9D (fun hHeld => ?_)
              case s9D => exact trivial
              clear hK K
              (try simp only [Act.put, List.setIfInBounds_toArray, List.set_cons_zero, List.set_cons_succ])
              refine wpAnyH_take_at (i := 10) (v := ?v10D) rfl (by kernel_rfl) (by kernel_rfl) (by kernel_rfl) (fun _ _ _ h => h) (Or.inl ⟨by rfl, ?y10D⟩) hHeld ?r10D
              case y10D => (intro w hSw; (try dsimp only at hSw); go_simp; first | done | with_reducible rfl)
              (try simp only [Act.put, List.setIfInBounds_toArray, List.set_cons_zero, List.set_cons_succ])
              refine wpAnyH_take_at (i := 11) (v := ?v11D) rfl (by kernel_rfl) (by kernel_rfl) (by kernel_rfl) (fun _ _ _ h => h) (Or.inl ⟨by rfl, ?y11D⟩) hHeld ?r11D
              case y11D => (intro w hSw; (try dsimp only at hSw); go_simp; first | done | with_reducible rfl)
              (try simp only [Act.put, List.setIfInBounds_toArray, List.set_cons_zero, List.set_cons_succ])
              refine wpAnyH_one (i := 12) (by kernel_rfl) rfl (fun K hK => ?_)
              go_simp
              refine hK.out _ _ ?s12D (fun hHeld => ?_)
              case s12D => exact trivial
              clear hK K
              (try simp only [Act.put, List.setIfInBounds_toArray, List.set_cons_zero, List.set_cons_succ])
              refine wpAnyH_done (by kernel_rfl) ?_ _
              refine NoPanic.normal ?_
              clear HA9 HG9 HR9 HC9 HG7 HE7 HN7 HG2 c2w lbw e0 e1 e2 e3
              go_wp2_with fail
              go_roundg (N - (j + 1))
              case measure => omega
              case rel => exact ⟨j + 1, ao9, cap9, _, by omega, rfl, by go_num, HP⟩
      · obtain rfl : j = N := by omega
        have hh := HH.out wr hat.out.base
        obtain ⟨_, _, q0, q1, q2, q3, q4, q5⟩ := HSC.out _ hh
        obtain ⟨ao3, cap3, he, hre⟩ := hat.out.done
        have HO := Lib.hid (HRO.out wr b2 ao3 cap3 rb2 hre.mem)
        have HFB : Hid (∀ W', Keeps (refRows rb2 j) wr W' → Below W.heap.size W W') := fun W' hk => by
          have hw3 : W.heap.size ≤ b2 := by
            have h1 := hh.keep.size
            have h2 := (HH.out W3 (Below.refl _ _)).keep.size
            rw [HB2.out] at h2
            exact h2
          exact hh.below.trans (hk.below (Nat.le_trans (Nat.le_refl _) hh.keep.size) (fun k hk2 x => by
            obtain ⟨i, hi, e⟩ := x
            have := hre.zr i hi
            omega))
        clear hh hat hre he HH HRO HSC hi0 hz0 hz1' hz2 hj0 hy0 hy1 hy2
        go_wp2_with fail
        refine HO.out.mono ?_
        rintro e W8 ⟨rfl, hk8⟩
        have HB8 := Lib.hid (HFB.out W8 hk8)
        clear HO HFB hk8
        go_wp2_with fail
        go_ret
        exact ⟨by simp, HB8.out⟩
end
theorem rholds_spec {W : World} {m : Nat} {ao : Option Addr} {cap : Nat} {rb : Rows} {P K N : Nat} {In : Nat → Nat → Bool} (h : RefM W m ao cap rb P K N In) (hN : N = P * K) (hP : P ≤ 64) (hK : K ≤ 64) (r : Rl) :
    Calls Tryd.prog 15 #[.pointer (some ⟨m, 0, none⟩), .agg r.cells.toArray] W (RightPost (holdsB P K In r) W) := by
  obtain ⟨kind, head, who, a, b, via⟩ := r
  exact rholds_any h hN hP hK kind head who a b via _ rfl
end Go.Proofs.YtckjgefpelnkoaaDoor
