/-
  A rule that comes: the walk of Add.
-/
import Derived.Test.YtaabmkebbnkonaaDoorLiveFollow
set_option linter.unusedVariables false
set_option linter.unusedSimpArgs false
set_option linter.unnecessarySimpa false
namespace Go.Proofs.YtaabmkebbnkonaaDoor
open Go.ChangeShapes Go.WideShapes Go.ChangeAt Go.RowKit Go.Deep SetPlain
/-- Who is in which role by just those rules; its blocks. -/
def LvIs (z : Nat) (W : World) (lb P K : Nat) (rs : List Rl) (Fp : Nat → Prop) : Prop :=
  ∃ fb bw rb v In tot, LvMem z W lb fb bw rb P K v In tot rs ∧ rs.Nodup ∧ (∀ i c, In i c = true ↔ i < P * K ∧ c < P ∧ Der K rs i c) ∧ ∀ k, Fp k ↔ lvFp lb fb bw rb (P * K) v k
theorem LvIs.keeps {z : Nat} {W W' : World} {lb P K : Nat} {rs : List Rl} {Fp : Nat → Prop} (h : LvIs z W lb P K rs Fp) {S : Nat → Prop} (hk : Keeps S W W') (hs : ∀ k, Fp k → ¬ S k) : LvIs z W' lb P K rs Fp := by
  obtain ⟨fb, bw, rb, v, In, tot, h1, h2, h3, h4⟩ := h
  exact ⟨fb, bw, rb, v, In, tot, h1.keeps hk (fun k hf => hs k ((h4 k).2 hf)), h2, h3, h4⟩
theorem LvIs.quiet {z : Nat} {W W' : World} {lb P K : Nat} {rs : List Rl} {Fp : Nat → Prop} (h : LvIs z W lb P K rs Fp) (hk : Keeps (fun _ => False) W W') : LvIs z W' lb P K rs Fp := h.keeps hk (fun _ _ x => x)
theorem LvIs.lt {z : Nat} {W : World} {lb P K : Nat} {rs : List Rl} {Fp : Nat → Prop} (h : LvIs z W lb P K rs Fp) : ∀ k, Fp k → k < W.heap.size := by
  obtain ⟨fb, bw, rb, v, In, tot, h1, h2, h3, h4⟩ := h
  exact fun k hk => h1.lt k ((h4 k).1 hk)
theorem LvIs.ge {z : Nat} {W : World} {lb P K : Nat} {rs : List Rl} {Fp : Nat → Prop} (h : LvIs z W lb P K rs Fp) : ∀ k, Fp k → z ≤ k := by
  obtain ⟨fb, bw, rb, v, In, tot, h1, h2, h3, h4⟩ := h
  exact fun k hk => h1.ge k ((h4 k).1 hk)
/-- What a call that writes into blocks does. -/
structure MvF (W W' : World) (Fp Fp' : Nat → Prop) : Prop where
  keeps : Keeps Fp W W'
  fp : ∀ k, Fp' k → Fp k ∨ W.heap.size ≤ k
theorem MvF.quiet {W W' : World} {Fp : Nat → Prop} (hk : Keeps (fun _ => False) W W') : MvF W W' Fp Fp := ⟨hk.mono (fun _ _ x => x.elim), fun k h => .inl h⟩
theorem MvF.trans {W W' W2 : World} {F F' F2 : Nat → Prop} (h : MvF W W' F F') (k : MvF W' W2 F' F2) : MvF W W2 F F2 := by
  refine ⟨⟨k.keeps.os.trans h.keeps.os, k.keeps.tape.trans h.keeps.tape, k.keeps.output.trans h.keeps.output, Nat.le_trans h.keeps.size k.keeps.size, fun i hi hs => ?_⟩, fun i hi => ?_⟩
  · rw [k.keeps.block i (Nat.lt_of_lt_of_le hi h.keeps.size) (fun e => by rcases h.fp i e with h1 | h1; exact hs h1; omega)]
    exact h.keeps.block i hi hs
  · rcases k.fp i hi with h1 | h1
    · exact h.fp i h1
    · exact .inr (Nat.le_trans h.keeps.size h1)
theorem MvF.below {W W' : World} {F F' : Nat → Prop} {z : Nat} (h : MvF W W' F F') (hz : z ≤ W.heap.size) (hg : ∀ k, F k → z ≤ k) : Below z W W' := h.keeps.below hz (fun k hk hf => by have := hg k hf; omega)
/-- The pairs that follow of some rules and not of others, in order. -/
def Diff (P K : Nat) (rs rs' : List Rl) (ans : List (Nat × Nat)) : Prop := ans.Pairwise (fun x y => x.1 < y.1 ∨ (x.1 = y.1 ∧ x.2 < y.2)) ∧ ∀ i c, (i, c) ∈ ans ↔ i < P * K ∧ c < P ∧ Der K rs' i c ∧ ¬ Der K rs i c
/-- What Add may answer. -/
def AddR (P K : Nat) (rs : List Rl) (r : Rl) (rs' : List Rl) (ans : List (Nat × Nat)) (code : Int) : Prop :=
  (rightB P K r = false ∧ rs' = rs ∧ ans = [] ∧ code = 6) ∨ (rightB P K r = true ∧ r ∈ rs ∧ rs' = rs ∧ ans = [] ∧ code = 5) ∨ (rightB P K r = true ∧ r ∉ rs ∧ rs' = rs ++ [r] ∧ Diff P K rs (rs ++ [r]) ans ∧ code = 0)
def AddPost2 (z : Nat) (W : World) (lb P K : Nat) (rs : List Rl) (Fp : Nat → Prop) (r : Rl) (e : Ending) (W' : World) : Prop :=
  ∃ u code rs' ans Fp', e = .returned (.tuple #[u, .int .i64 code]) ∧ Hid (LvIs z W' lb P K rs' Fp' ∧ MvF W W' Fp Fp' ∧ ReadsP W' u ans ∧ (∀ k, u.ownBlock = some k → W.heap.size ≤ k) ∧ AddR P K rs r rs' ans code)
theorem add_stay {z : Nat} {W : World} {lb P K : Nat} {rs : List Rl} {Fp : Nat → Prop} {r : Rl} (h : LvIs z W lb P K rs Fp) {W' : World} (hk : Keeps (fun _ => False) W W') {code : Int} (hc : AddR P K rs r rs [] code) : AddPost2 z W lb P K rs Fp r (.returned (.tuple #[.slice none 0 0, .int .i64 code])) W' :=
  ⟨.slice none 0 0, code, rs, [], Fp, rfl, h.quiet hk, .quiet hk, ⟨none, 0, rfl, Nat.le_refl _, fun h => absurd h (Nat.lt_irrefl _)⟩, fun k e => (by cases e), hc⟩
/-- What comes of following, as an answer. -/
theorem diff_of {P K : Nat} {rs : List Rl} {r : Rl} {In0 In : Nat → Nat → Bool} {out : List (Nat × Nat)} (hrs : ∀ x ∈ rs ++ [r], rightB P K x = true) (h0 : ∀ i c, In0 i c = true ↔ i < P * K ∧ c < P ∧ Der K rs i c) (h : FlI P K (rs ++ [r]) In0 In [] out) : Diff P K rs (rs ++ [r]) (sortP out) := by
  constructor
  · have hs := sortP_sorted out
    have hn := sortP_nodup h.nodup
    rw [List.nodup_iff_pairwise_ne] at hn
    refine (List.pairwise_and_iff.2 ⟨hs, hn⟩).imp (fun {x y} hxy => ?_)
    obtain ⟨h1, h2⟩ := hxy
    rw [ltP] at h1
    have h1 := of_decide_eq_false h1
    obtain ⟨a, b⟩ := x
    obtain ⟨c, d⟩ := y
    simp only [] at h1 ⊢
    by_cases e : a = c
    · subst e
      refine .inr ⟨rfl, ?_⟩
      by_cases e2 : b = d
      · subst e2; exact absurd rfl h2
      · omega
    · omega
  · intro i c
    rw [sortP_mem, h.mem, h.done hrs i c]
    constructor
    · rintro ⟨⟨h1, h2, h3⟩, h4⟩
      refine ⟨h1, h2, h3, fun d => ?_⟩
      rw [(h0 i c).2 ⟨h1, h2, d⟩] at h4
      cases h4
    · rintro ⟨h1, h2, h3, h4⟩
      refine ⟨⟨h1, h2, h3⟩, ?_⟩
      cases e : In0 i c with
      | false => rfl
      | true => exact absurd ((h0 i c).1 e).2.2 h4
/-- One rule more in memory. -/
theorem LvMem.push {z : Nat} {W1 w8 : World} {lb fb bw : Nat} {rb : Nat → Nat} {P K : Nat} {av : Option Addr} {n cv : Nat} {In : Nat → Nat → Bool} {tot : Nat} {rs : List Rl} (h : LvMem z W1 lb fb bw rb P K (.slice av n cv) In tot rs) (hn : rs.length = n) {ao2 : Option Addr} {cap2 : Nat} {r : Rl}
    (hown : TailRow w8 29 6 (.slice ao2 (n + 1) cap2) (n + 1) (rlCells rs ++ [.int .i64 r.kind, .int .i64 r.head, .int .i64 r.who, .int .i64 r.a, .int .i64 r.b, .int .i64 r.via])) (hg : W1.grownBy w8 (Value.slice av n cv).ownBlock) (ho : ∀ k, (Value.slice ao2 (n + 1) cap2).ownBlock = some k → (Value.slice av n cv).ownBlock = some k ∨ W1.heap.size ≤ k) (hR : rightB P K r = true) (hl : n + 1 ≤ 1000) (hzW : z ≤ W1.heap.size) :
    LvMem z (w8.setCell ⟨lb, 1, none⟩ (.slice ao2 (n + 1) cap2)) lb fb bw rb P K (.slice ao2 (n + 1) cap2) In tot (rs ++ [r]) ∧ w8.cell? ⟨lb, 1, none⟩ = some (.slice av n cv) ∧ w8.frozen? ⟨lb, 1, none⟩ = false ∧ Keeps (fun k => (Value.slice av n cv).ownBlock = some k) W1 w8 ∧ Keeps (fun k => k = lb) w8 (w8.setCell ⟨lb, 1, none⟩ (.slice ao2 (n + 1) cap2)) := by
  have k8 := keeps_grown hg
  have hob : w8.heap[lb]? = some (lvObj fb (.slice av n cv) P K) := (k8.block _ (lt_of_heap h.obj) h.vl).trans h.obj
  have k9 : Keeps (fun k => k = lb) w8 (w8.setCell ⟨lb, 1, none⟩ (.slice ao2 (n + 1) cap2)) := Keeps.setCell (S := fun k => k = lb) (Keeps.refl _ w8) (p := ⟨lb, 1, none⟩) (fun _ => rfl) _
  have hlb := lt_of_heap h.obj
  have hne : ∀ k, (Value.slice ao2 (n + 1) cap2).ownBlock = some k → k ≠ lb := fun k e e2 => by
    subst e2
    rcases ho _ e with h1 | h1
    · exact h.vl h1
    · omega
  unfold lvObj at hob
  refine ⟨⟨?_, ?_, ?_, fun k e => ?_, h.lf, fun e => hne _ e rfl, fun k e => ?_, h.zl, h.zf, h.hP, h.hK, ?_, h.tot_, ?_⟩, ?_, free_of_heap hob 1, k8, k9⟩
  · rw [heap_set hob]; rfl
  · exact (h.fam.keeps k8 (fun k hf e => h.vf k e hf)).keeps k9 (fun k hf e => h.lf (e ▸ hf))
  · rw [List.length_append, hn, rlCells_append]
    exact TailRow.keeps hown k9 hne
  · rcases ho k e with h1 | h1
    · exact h.zv k h1
    · omega
  · rcases ho k e with h1 | h1
    · exact h.vf k h1
    · intro hf; have := h.fam.lt k hf; omega
  · rw [List.length_append, hn]; exact hl
  · intro x hx
    rcases List.mem_append.1 hx with h1 | h1
    · exact h.right x h1
    · rw [List.mem_singleton] at h1; subst h1; exact hR
  · rw [cell_of_heap hob]; rfl
set_option maxRecDepth 100000
set_option maxHeartbeats 6400000
theorem add_spec {z : Nat} {W : World} {lb P K : Nat} {rs : List Rl} {Fp : Nat → Prop} (h : LvIs z W lb P K rs Fp) (hz : 0 < z) (hzW : z ≤ W.heap.size) (hT : TabIn W) (hlen : rs.length ≤ 900) (r : Rl) :
    Calls Tryd.prog 8 #[.pointer (some ⟨lb, 0, none⟩), .agg #[.int .i64 r.kind, .int .i64 r.head, .int .i64 r.who, .int .i64 r.a, .int .i64 r.b, .int .i64 r.via]] W (AddPost2 z W lb P K rs Fp r) := by
  obtain ⟨i1, hi1, hy0, hy1, hy2⟩ := info_parts rlInfo
  have HI := Lib.hid h
  obtain ⟨fb, bw, rb, v, In, tot, hL, hnd, hIn, hFp⟩ := h
  obtain ⟨av, cv, rfl, hcv, hmxv, hrow⟩ := TailRow.rules hL.row
  have hlb := lt_of_heap hL.obj
  obtain ⟨n, hn⟩ : ∃ n, rs.length = n := ⟨_, rfl⟩
  have HNN := Lib.hid hn
  obtain ⟨w1, hw1⟩ : ∃ w1, (W.alloc (.cells #[.int .i64 r.kind, .int .i64 r.head, .int .i64 r.who, .int .i64 r.a, .int .i64 r.b, .int .i64 r.via] 29)) = w1 := ⟨_, rfl⟩
  have hal := (MapKept.heap_alloc W (.cells #[.int .i64 r.kind, .int .i64 r.head, .int .i64 r.who, .int .i64 r.a, .int .i64 r.b, .int .i64 r.via] 29)).1
  have k1 : Keeps (fun _ => False) W (W.alloc (.cells #[.int .i64 r.kind, .int .i64 r.head, .int .i64 r.who, .int .i64 r.a, .int .i64 r.b, .int .i64 r.via] 29)) := (Keeps.refl _ _).alloc _
  rw [hw1] at hal k1
  obtain ⟨xb, hxb⟩ : ∃ xb, W.heap.size = xb := ⟨_, rfl⟩
  rw [hxb] at hal
  have hLQ := hL.quiet k1
  rw [hn] at hL hcv hlen hFp
  have HLM := Lib.hid hL
  have HFP := Lib.hid hFp
  have HIn := Lib.hid hIn
  have HND := Lib.hid hnd
  have HK1 := Lib.hid k1
  have HAL := Lib.hid hal
  have HTW := Lib.hid hT
  have HS : Hid (∀ w', Keeps (fun _ => False) w1 w' → (w'.cell? ⟨lb, 1, none⟩ = some (.slice av n cv) ∧ w'.cell? ⟨lb, 2, none⟩ = some (.int .i64 P) ∧ w'.cell? ⟨lb, 3, none⟩ = some (.int .i64 K) ∧ w'.cell? ⟨xb, 0, none⟩ = some (.int .i64 r.kind) ∧ w'.cell? ⟨xb, 1, none⟩ = some (.int .i64 r.head) ∧ w'.cell? ⟨xb, 2, none⟩ = some (.int .i64 r.who) ∧ w'.cell? ⟨xb, 3, none⟩ = some (.int .i64 r.a) ∧ w'.cell? ⟨xb, 4, none⟩ = some (.int .i64 r.b) ∧ w'.cell? ⟨xb, 5, none⟩ = some (.int .i64 r.via))) := fun w' hk => by
    obtain ⟨_, c1, c2, c3⟩ := (hLQ.quiet hk).cells
    rw [hn] at c1
    have e := (hk.block _ (lt_of_heap hal) (fun x => x)).trans hal
    refine ⟨c1, c2, c3, ?_, ?_, ?_, ?_, ?_, ?_⟩ <;> (rw [cell_of_heap e]; rfl)
  have HRT := Lib.hid (right_spec w1.drew P K r)
  have HRW : Hid (∀ w', Keeps (fun _ => False) w1 w' → Calls Tryd.prog 25 #[.slice av n cv, .agg #[.int .i64 r.kind, .int .i64 r.head, .int .i64 r.who, .int .i64 r.a, .int .i64 r.b, .int .i64 r.via]] w' (CtPost w' rs r)) := fun w' hk =>
    rcontains_spec (hrow.keeps ((k1.trans hk).below (Nat.le_refl _) (fun _ _ x => x)) (fun _ _ _ h => h)) hn hcv (by omega) r
  have H0 := HS.out w1.drew ((Keeps.refl _ _).drew)
  obtain ⟨rg, hrg⟩ : ∃ rg, rightB P K r = rg := ⟨_, rfl⟩
  have HRG := Lib.hid hrg
  rw [hrg] at HRT
  clear hL hFp hIn hnd k1 hal hT hLQ hrow hmxv hrg
  go_enter Tryd.func8, Tryd.ntmps8
  go_upto_region 1 with fail
  (try simp only [hw1])
  (try simp only [hxb])
  clear hw1
  refine wp_region_noPanic ?_
  refine wp_region_held_drew (S := (fun w' => (w'.cell? ⟨lb, 1, none⟩ = some (.slice av n cv) ∧ w'.cell? ⟨lb, 2, none⟩ = some (.int .i64 P) ∧ w'.cell? ⟨lb, 3, none⟩ = some (.int .i64 K) ∧ w'.cell? ⟨xb, 0, none⟩ = some (.int .i64 r.kind) ∧ w'.cell? ⟨xb, 1, none⟩ = some (.int .i64 r.head) ∧ w'.cell? ⟨xb, 2, none⟩ = some (.int .i64 r.who) ∧ w'.cell? ⟨xb, 3, none⟩ = some (.int .i64 r.a) ∧ w'.cell? ⟨xb, 4, none⟩ = some (.int .i64 r.b) ∧ w'.cell? ⟨xb, 5, none⟩ = some (.int .i64 r.via)))) (by kernel_rfl) H0 (fun hHeld => ?_)
  refine wpAnyH_take_at (i := 0) (v := ?v0) rfl (by kernel_rfl) (by kernel_rfl) (by kernel_rfl) (fun _ _ _ h => h) (Or.inl ⟨by rfl, ?y0⟩) hHeld ?r0
  case y0 => (intro w hSw; (try dsimp only at hSw); go_simp; first | done | with_reducible rfl)
  (try simp only [Act.put, List.setIfInBounds_toArray, List.set_cons_zero, List.set_cons_succ])
  refine wpAnyH_take_at (i := 1) (v := ?v1) rfl (by kernel_rfl) (by kernel_rfl) (by kernel_rfl) (fun _ _ _ h => h) (Or.inl ⟨by rfl, ?y1⟩) hHeld ?r1
  case y1 => (intro w hSw; (try dsimp only at hSw); go_simp; first | done | with_reducible rfl)
  (try simp only [Act.put, List.setIfInBounds_toArray, List.set_cons_zero, List.set_cons_succ])
  refine wpAnyH_take_at (i := 2) (v := ?v2) rfl (by kernel_rfl) (by kernel_rfl) (by kernel_rfl) (fun _ _ _ h => h) (Or.inl ⟨by rfl, ?y2⟩) hHeld ?r2
  case y2 => (intro w hSw; (try dsimp only at hSw); go_simp; first | done | with_reducible rfl)
  (try simp only [Act.put, List.setIfInBounds_toArray, List.set_cons_zero, List.set_cons_succ])
  refine wpAnyH_take_at (i := 3) (v := ?v3) rfl (by kernel_rfl) (by kernel_rfl) (by kernel_rfl) (fun _ _ _ h => h) (Or.inl ⟨by rfl, ?y3⟩) hHeld ?r3
  case y3 => (intro w hSw; (try dsimp only at hSw); go_simp; first | done | with_reducible rfl)
  (try simp only [Act.put, List.setIfInBounds_toArray, List.set_cons_zero, List.set_cons_succ])
  refine wpAnyH_take_at (i := 4) (v := ?v4) rfl (by kernel_rfl) (by kernel_rfl) (by kernel_rfl) (fun _ _ _ h => h) (Or.inl ⟨by rfl, ?y4⟩) hHeld ?r4
  case y4 => (intro w hSw; (try dsimp only at hSw); go_simp; first | done | with_reducible rfl)
  (try simp only [Act.put, List.setIfInBounds_toArray, List.set_cons_zero, List.set_cons_succ])
  refine wpAnyH_take_at (i := 5) (v := ?v5) rfl (by kernel_rfl) (by kernel_rfl) (by kernel_rfl) (fun _ _ _ h => h) (Or.inl ⟨by rfl, ?y5⟩) hHeld ?r5
  case y5 => (intro w hSw; (try dsimp only at hSw); go_simp; first | done | with_reducible rfl)
  (try simp only [Act.put, List.setIfInBounds_toArray, List.set_cons_zero, List.set_cons_succ])
  refine wpAnyH_take_at (i := 6) (v := ?v6) rfl (by kernel_rfl) (by kernel_rfl) (by kernel_rfl) (fun _ _ _ h => h) (Or.inl ⟨by rfl, ?y6⟩) hHeld ?r6
  case y6 => (intro w hSw; (try dsimp only at hSw); go_simp; first | done | with_reducible rfl)
  (try simp only [Act.put, List.setIfInBounds_toArray, List.set_cons_zero, List.set_cons_succ])
  refine wpAnyH_take_at (i := 7) (v := ?v7) rfl (by kernel_rfl) (by kernel_rfl) (by kernel_rfl) (fun _ _ _ h => h) (Or.inl ⟨by rfl, ?y7⟩) hHeld ?r7
  case y7 => (intro w hSw; (try dsimp only at hSw); go_simp; first | done | with_reducible rfl)
  (try simp only [Act.put, List.setIfInBounds_toArray, List.set_cons_zero, List.set_cons_succ])
  refine wpAnyH_take_at (i := 8) (v := ?v8) rfl (by kernel_rfl) (by kernel_rfl) (by kernel_rfl) (fun _ _ _ h => h) (Or.inl ⟨by rfl, ?y8⟩) hHeld ?r8
  case y8 => (intro w hSw; (try dsimp only at hSw); go_simp; first | done | with_reducible rfl)
  (try simp only [Act.put, List.setIfInBounds_toArray, List.set_cons_zero, List.set_cons_succ])
  refine wpAnyH_take_at (i := 9) (v := ?v9) rfl (by kernel_rfl) (by kernel_rfl) (by kernel_rfl) (fun _ _ _ h => h) (Or.inl ⟨by rfl, ?y9⟩) hHeld ?r9
  case y9 => (intro w hSw; (try dsimp only at hSw); go_simp; first | done | with_reducible rfl)
  (try simp only [Act.put, List.setIfInBounds_toArray, List.set_cons_zero, List.set_cons_succ])
  refine wpAnyH_take_at (i := 10) (v := ?v10) rfl (by kernel_rfl) (by kernel_rfl) (by kernel_rfl) (fun _ _ _ h => h) (Or.inl ⟨by rfl, ?y10⟩) hHeld ?r10
  case y10 => (intro w hSw; (try dsimp only at hSw); go_simp; first | done | with_reducible rfl)
  (try simp only [Act.put, List.setIfInBounds_toArray, List.set_cons_zero, List.set_cons_succ])
  refine wpAnyH_take_at (i := 11) (v := ?v11) rfl (by kernel_rfl) (by kernel_rfl) (by kernel_rfl) (fun _ _ _ h => h) (Or.inl ⟨by rfl, ?y11⟩) hHeld ?r11
  case y11 => (intro w hSw; (try dsimp only at hSw); go_simp; first | done | with_reducible rfl)
  (try simp only [Act.put, List.setIfInBounds_toArray, List.set_cons_zero, List.set_cons_succ])
  refine wpAnyH_one (i := 12) (by kernel_rfl) rfl (fun KK hK => ?_)
  go_simp
  refine HRT.out.mono ?_
  rintro e wA ⟨rfl, hbA⟩
  go_simp
  refine hK.out _ _ ?s12 (fun hHeld => ?_)
  case s12 => exact HS.out _ (((Keeps.refl _ _).drew).trans (Keeps.of_below hbA (Nat.le_refl _)))
  clear hK KK
  (try simp only [Act.put, List.setIfInBounds_toArray, List.set_cons_zero, List.set_cons_succ])
  refine wpAnyH_take_at (i := 13) (v := ?v13) rfl (by kernel_rfl) (by kernel_rfl) (by kernel_rfl) (fun _ _ _ h => h) (Or.inl ⟨by rfl, ?y13⟩) hHeld ?r13
  case y13 => (intro w hSw; (try dsimp only at hSw); go_simp; first | done | with_reducible rfl)
  (try simp only [Act.put, List.setIfInBounds_toArray, List.set_cons_zero, List.set_cons_succ])
  refine wpAnyH_take_at (i := 14) (v := ?v14) rfl (by kernel_rfl) (by kernel_rfl) (by kernel_rfl) (fun _ _ _ h => h) (Or.inl ⟨by rfl, ?y14⟩) hHeld ?r14
  case y14 => (intro w hSw; (try dsimp only at hSw); go_simp; first | done | with_reducible rfl)
  (try simp only [Act.put, List.setIfInBounds_toArray, List.set_cons_zero, List.set_cons_succ])
  refine wpAnyH_take_at (i := 15) (v := ?v15) rfl (by kernel_rfl) (by kernel_rfl) (by kernel_rfl) (fun _ _ _ h => h) (Or.inl ⟨by rfl, ?y15⟩) hHeld ?r15
  case y15 => (intro w hSw; (try dsimp only at hSw); go_simp; first | done | with_reducible rfl)
  (try simp only [Act.put, List.setIfInBounds_toArray, List.set_cons_zero, List.set_cons_succ])
  refine wpAnyH_done (by kernel_rfl) ?_ _
  refine NoPanic.normal ?_
  have kA : Keeps (fun _ => False) w1 wA := ((Keeps.refl _ _).drew).trans (Keeps.of_below hbA (Nat.le_refl _))
  have HKA := Lib.hid kA
  clear hHeld H0 hbA HRT kA
  cases rg with
  | false =>
    have HF := Lib.hid (add_stay (r := r) HI.out (HK1.out.trans HKA.out) (code := 6) (.inl ⟨HRG.out, rfl, rfl, rfl⟩))
    clear HI HK1 HKA HS HRW HLM HFP HIn HND HAL HTW
    go_wp2_with fail
    go_ret2
    exact HF.out
  | true =>
    obtain ⟨ct, hct⟩ : ∃ ct, decide (r ∈ rs) = ct := ⟨_, rfl⟩
    have HCB := Lib.hid hct
    have HCT : Hid (Calls Tryd.prog 25 #[.slice av n cv, .agg #[.int .i64 r.kind, .int .i64 r.head, .int .i64 r.who, .int .i64 r.a, .int .i64 r.b, .int .i64 r.via]] wA.drew fun e w2 => e = .returned (.bool ct) ∧ Hid (Keeps (fun _ => False) w1 w2)) := (HRW.out wA.drew (HKA.out.trans ((Keeps.refl _ _).drew))).mono fun e w2 h => by
      obtain ⟨rfl, h2⟩ := h
      exact ⟨by rw [hct], (HKA.out.trans ((Keeps.refl _ _).drew)).trans h2.out⟩
    have H1 := HS.out wA.drew (HKA.out.trans ((Keeps.refl _ _).drew))
    have hn9 : ¬ (1000 : Int) ≤ (n : Int) := by omega
    have hn9d : decide (1000 ≤ n) = false := decide_eq_false (by omega)
    clear HRW HKA hct
    go_upto_region 3 with fail
    refine wp_region_noPanic ?_
    refine wp_region_held_drew (S := (fun w' => (w'.cell? ⟨lb, 1, none⟩ = some (.slice av n cv) ∧ w'.cell? ⟨lb, 2, none⟩ = some (.int .i64 P) ∧ w'.cell? ⟨lb, 3, none⟩ = some (.int .i64 K) ∧ w'.cell? ⟨xb, 0, none⟩ = some (.int .i64 r.kind) ∧ w'.cell? ⟨xb, 1, none⟩ = some (.int .i64 r.head) ∧ w'.cell? ⟨xb, 2, none⟩ = some (.int .i64 r.who) ∧ w'.cell? ⟨xb, 3, none⟩ = some (.int .i64 r.a) ∧ w'.cell? ⟨xb, 4, none⟩ = some (.int .i64 r.b) ∧ w'.cell? ⟨xb, 5, none⟩ = some (.int .i64 r.via)))) (by kernel_rfl) H1 (fun hHeld => ?_)
    refine wpAnyH_take_at (i := 0) (v := ?v0b) rfl (by kernel_rfl) (by kernel_rfl) (by kernel_rfl) (fun _ _ _ h => h) (Or.inl ⟨by rfl, ?y0b⟩) hHeld ?r0b
    case y0b => (intro w hSw; (try dsimp only at hSw); go_simp; first | done | with_reducible rfl)
    (try simp only [Act.put, List.setIfInBounds_toArray, List.set_cons_zero, List.set_cons_succ])
    refine wpAnyH_take_at (i := 1) (v := ?v1b) rfl (by kernel_rfl) (by kernel_rfl) (by kernel_rfl) (fun _ _ _ h => h) (Or.inl ⟨by rfl, ?y1b⟩) hHeld ?r1b
    case y1b => (intro w hSw; (try dsimp only at hSw); go_simp; first | done | with_reducible rfl)
    (try simp only [Act.put, List.setIfInBounds_toArray, List.set_cons_zero, List.set_cons_succ])
    refine wpAnyH_take_at (i := 2) (v := ?v2b) rfl (by kernel_rfl) (by kernel_rfl) (by kernel_rfl) (fun _ _ _ h => h) (Or.inl ⟨by rfl, ?y2b⟩) hHeld ?r2b
    case y2b => (intro w hSw; (try dsimp only at hSw); go_simp; first | done | with_reducible rfl)
    (try simp only [Act.put, List.setIfInBounds_toArray, List.set_cons_zero, List.set_cons_succ])
    refine wpAnyH_take_at (i := 3) (v := ?v3b) rfl (by kernel_rfl) (by kernel_rfl) (by kernel_rfl) (fun _ _ _ h => h) (Or.inl ⟨by rfl, ?y3b⟩) hHeld ?r3b
    case y3b => (intro w hSw; (try dsimp only at hSw); go_simp; first | done | with_reducible rfl)
    (try simp only [Act.put, List.setIfInBounds_toArray, List.set_cons_zero, List.set_cons_succ])
    refine wpAnyH_take_at (i := 4) (v := ?v4b) rfl (by kernel_rfl) (by kernel_rfl) (by kernel_rfl) (fun _ _ _ h => h) (Or.inl ⟨by rfl, ?y4b⟩) hHeld ?r4b
    case y4b => (intro w hSw; (try dsimp only at hSw); go_simp; first | done | with_reducible rfl)
    (try simp only [Act.put, List.setIfInBounds_toArray, List.set_cons_zero, List.set_cons_succ])
    refine wpAnyH_one (i := 5) (by kernel_rfl) rfl (fun KK hK => ?_)
    go_simp
    refine HCT.out.mono ?_
    rintro e wB ⟨rfl, hkB⟩
    go_simp
    refine hK.out _ _ ?s5b (fun hHeld => ?_)
    case s5b => exact HS.out _ hkB.out
    clear hK KK
    (try simp only [Act.put, List.setIfInBounds_toArray, List.set_cons_zero, List.set_cons_succ])
    refine wpAnyH_take_at (i := 6) (v := ?v6b) rfl (by kernel_rfl) (by kernel_rfl) (by kernel_rfl) (fun _ _ _ h => h) (Or.inl ⟨by rfl, ?y6b⟩) hHeld ?r6b
    case y6b => (intro w hSw; (try dsimp only at hSw); go_simp; first | done | with_reducible rfl)
    (try simp only [Act.put, List.setIfInBounds_toArray, List.set_cons_zero, List.set_cons_succ])
    clear H1 HCT
    cases ct with
    | true =>
      refine wpAnyH_take_at (i := 7) (v := undef) rfl (by kernel_rfl) (by kernel_rfl) (by kernel_rfl) (fun _ _ _ h => h) (Or.inr ⟨by rfl, rfl⟩) hHeld ?r7c
      (try simp only [Act.put, List.setIfInBounds_toArray, List.set_cons_zero, List.set_cons_succ])
      refine wpAnyH_take_at (i := 8) (v := undef) rfl (by kernel_rfl) (by kernel_rfl) (by kernel_rfl) (fun _ _ _ h => h) (Or.inr ⟨by rfl, rfl⟩) hHeld ?r8c
      (try simp only [Act.put, List.setIfInBounds_toArray, List.set_cons_zero, List.set_cons_succ])
      refine wpAnyH_take_at (i := 9) (v := undef) rfl (by kernel_rfl) (by kernel_rfl) (by kernel_rfl) (fun _ _ _ h => h) (Or.inr ⟨by rfl, rfl⟩) hHeld ?r9c
      (try simp only [Act.put, List.setIfInBounds_toArray, List.set_cons_zero, List.set_cons_succ])
      refine wpAnyH_take_at (i := 10) (v := undef) rfl (by kernel_rfl) (by kernel_rfl) (by kernel_rfl) (fun _ _ _ h => h) (Or.inr ⟨by rfl, rfl⟩) hHeld ?r10c
      (try simp only [Act.put, List.setIfInBounds_toArray, List.set_cons_zero, List.set_cons_succ])
      refine wpAnyH_take_at (i := 11) (v := undef) rfl (by kernel_rfl) (by kernel_rfl) (by kernel_rfl) (fun _ _ _ h => h) (Or.inr ⟨by rfl, rfl⟩) hHeld ?r11c
      (try simp only [Act.put, List.setIfInBounds_toArray, List.set_cons_zero, List.set_cons_succ])
      refine wpAnyH_take_at (i := 12) (v := undef) rfl (by kernel_rfl) (by kernel_rfl) (by kernel_rfl) (fun _ _ _ h => h) (Or.inr ⟨by rfl, rfl⟩) hHeld ?r12c
      (try simp only [Act.put, List.setIfInBounds_toArray, List.set_cons_zero, List.set_cons_succ])
      refine wpAnyH_take_at (i := 13) (v := ?v13c) rfl (by kernel_rfl) (by kernel_rfl) (by kernel_rfl) (fun _ _ _ h => h) (Or.inl ⟨by rfl, ?y13c⟩) hHeld ?r13c
      case y13c => (intro w hSw; (try dsimp only at hSw); go_simp; first | done | with_reducible rfl)
      (try simp only [Act.put, List.setIfInBounds_toArray, List.set_cons_zero, List.set_cons_succ])
      refine wpAnyH_take_at (i := 14) (v := ?v14c) rfl (by kernel_rfl) (by kernel_rfl) (by kernel_rfl) (fun _ _ _ h => h) (Or.inl ⟨by rfl, ?y14c⟩) hHeld ?r14c
      case y14c => (intro w hSw; (try dsimp only at hSw); go_simp; first | done | with_reducible rfl)
      (try simp only [Act.put, List.setIfInBounds_toArray, List.set_cons_zero, List.set_cons_succ])
      refine wpAnyH_done (by kernel_rfl) ?_ _
      refine NoPanic.normal ?_
      have HF := Lib.hid (add_stay (r := r) HI.out (HK1.out.trans hkB.out) (code := 5) (.inr (.inl ⟨HRG.out, of_decide_eq_true HCB.out, rfl, rfl, rfl⟩)))
      clear hHeld hkB HI HK1 HS HLM HFP HIn HND HAL HTW
      go_wp2_with fail
      go_ret2
      exact HF.out
    | false =>
      refine wpAnyH_take_at (i := 7) (v := ?v7d) rfl (by kernel_rfl) (by kernel_rfl) (by kernel_rfl) (fun _ _ _ h => h) (Or.inl ⟨by rfl, ?y7d⟩) hHeld ?r7d
      case y7d => (intro w hSw; (try dsimp only at hSw); go_simp; first | done | with_reducible rfl)
      (try simp only [Act.put, List.setIfInBounds_toArray, List.set_cons_zero, List.set_cons_succ])
      refine wpAnyH_take_at (i := 8) (v := ?v8d) rfl (by kernel_rfl) (by kernel_rfl) (by kernel_rfl) (fun _ _ _ h => h) (Or.inl ⟨by rfl, ?y8d⟩) hHeld ?r8d
      case y8d => (intro w hSw; (try dsimp only at hSw); go_simp; first | done | with_reducible rfl)
      (try simp only [Act.put, List.setIfInBounds_toArray, List.set_cons_zero, List.set_cons_succ])
      refine wpAnyH_take_at (i := 9) (v := ?v9d) rfl (by kernel_rfl) (by kernel_rfl) (by kernel_rfl) (fun _ _ _ h => h) (Or.inl ⟨by rfl, ?y9d⟩) hHeld ?r9d
      case y9d => (intro w hSw; (try dsimp only at hSw); go_simp; first | done | with_reducible rfl)
      (try simp only [Act.put, List.setIfInBounds_toArray, List.set_cons_zero, List.set_cons_succ])
      refine wpAnyH_take_at (i := 10) (v := ?v10d) rfl (by kernel_rfl) (by kernel_rfl) (by kernel_rfl) (fun _ _ _ h => h) (Or.inl ⟨by rfl, ?y10d⟩) hHeld ?r10d
      case y10d => (intro w hSw; (try dsimp only at hSw); go_simp; first | done | with_reducible rfl)
      (try simp only [Act.put, List.setIfInBounds_toArray, List.set_cons_zero, List.set_cons_succ])
      refine wpAnyH_take_at (i := 11) (v := ?v11d) rfl (by kernel_rfl) (by kernel_rfl) (by kernel_rfl) (fun _ _ _ h => h) (Or.inl ⟨by rfl, ?y11d⟩) hHeld ?r11d
      case y11d => (intro w hSw; (try dsimp only at hSw); go_simp; first | done | with_reducible rfl)
      (try simp only [Act.put, List.setIfInBounds_toArray, List.set_cons_zero, List.set_cons_succ])
      refine wpAnyH_take_at (i := 12) (v := ?v12d) rfl (by kernel_rfl) (by kernel_rfl) (by kernel_rfl) (fun _ _ _ h => h) (Or.inl ⟨by rfl, ?y12d⟩) hHeld ?r12d
      case y12d => (intro w hSw; (try dsimp only at hSw); go_simp; first | done | with_reducible rfl)
      (try simp only [Act.put, List.setIfInBounds_toArray, List.set_cons_zero, List.set_cons_succ])
      refine wpAnyH_take_at (i := 13) (v := ?v13d) rfl (by kernel_rfl) (by kernel_rfl) (by kernel_rfl) (fun _ _ _ h => h) (Or.inl ⟨by rfl, ?y13d⟩) hHeld ?r13d
      case y13d => (intro w hSw; (try dsimp only at hSw); go_simp; first | done | with_reducible rfl)
      (try simp only [Act.put, List.setIfInBounds_toArray, List.set_cons_zero, List.set_cons_succ])
      refine wpAnyH_take_at (i := 14) (v := ?v14d) rfl (by kernel_rfl) (by kernel_rfl) (by kernel_rfl) (fun _ _ _ h => h) (Or.inl ⟨by rfl, ?y14d⟩) hHeld ?r14d
      case y14d => (intro w hSw; (try dsimp only at hSw); go_simp; first | done | with_reducible rfl)
      (try simp only [Act.put, List.setIfInBounds_toArray, List.set_cons_zero, List.set_cons_succ])
      refine wpAnyH_done (by kernel_rfl) ?_ _
      refine NoPanic.normal ?_
      clear hHeld
      have HKB := Lib.hid (hkB.out.trans ((Keeps.refl _ wB).drew))
      obtain ⟨wD, hwD⟩ : ∃ wD, wB.drew = wD := ⟨_, rfl⟩
      rw [hwD] at HKB
      have h2 := HS.out wD HKB.out
      have H2 := h2.2.2.2
      have c1 := h2.1
      have kal : Keeps (fun _ => False) wD (wD.alloc (.cells #[.int .i64 r.kind, .int .i64 r.head, .int .i64 r.who, .int .i64 r.a, .int .i64 r.b, .int .i64 r.via] 29)) := (Keeps.refl _ _).alloc _
      have c1a : (wD.alloc (.cells #[.int .i64 r.kind, .int .i64 r.head, .int .i64 r.who, .int .i64 r.a, .int .i64 r.b, .int .i64 r.via] 29)).cell? ⟨lb, 1, none⟩ = some (.slice av n cv) := (HS.out _ (HKB.out.trans kal)).1
      have H2a := (HS.out _ (HKB.out.trans kal)).2.2.2
      have hLA := (HLM.out.quiet HK1.out).quiet (HKB.out.trans kal)
      have HTD : Hid (TailRow (wD.alloc (.cells #[.int .i64 r.kind, .int .i64 r.head, .int .i64 r.who, .int .i64 r.a, .int .i64 r.b, .int .i64 r.via] 29)) 29 6 (.slice av n cv) n (rlCells rs)) := by
        have h := hLA.row
        rw [HNN.out] at h
        exact h
      have HG : Hid (∀ ao2 cap2 w8, TailRow w8 29 6 (.slice ao2 (n + 1) cap2) (n + 1) (rlCells rs ++ [.int .i64 r.kind, .int .i64 r.head, .int .i64 r.who, .int .i64 r.a, .int .i64 r.b, .int .i64 r.via]) → (wD.alloc (.cells #[.int .i64 r.kind, .int .i64 r.head, .int .i64 r.who, .int .i64 r.a, .int .i64 r.b, .int .i64 r.via] 29)).grownBy w8 (Value.slice av n cv).ownBlock → (∀ k, (Value.slice ao2 (n + 1) cap2).ownBlock = some k → (Value.slice av n cv).ownBlock = some k ∨ (wD.alloc (.cells #[.int .i64 r.kind, .int .i64 r.head, .int .i64 r.who, .int .i64 r.a, .int .i64 r.b, .int .i64 r.via] 29)).heap.size ≤ k) →
          w8.cell? ⟨lb, 1, none⟩ = some (.slice av n cv) ∧ w8.frozen? ⟨lb, 1, none⟩ = false ∧ (w8.cell? ⟨xb, 0, none⟩ = some (.int .i64 r.kind) ∧ w8.cell? ⟨xb, 1, none⟩ = some (.int .i64 r.head) ∧ w8.cell? ⟨xb, 2, none⟩ = some (.int .i64 r.who) ∧ w8.cell? ⟨xb, 3, none⟩ = some (.int .i64 r.a) ∧ w8.cell? ⟨xb, 4, none⟩ = some (.int .i64 r.b) ∧ w8.cell? ⟨xb, 5, none⟩ = some (.int .i64 r.via)) ∧ ((w8.setCell ⟨lb, 1, none⟩ (.slice ao2 (n + 1) cap2)).cell? ⟨xb, 0, none⟩ = some (.int .i64 r.kind) ∧ (w8.setCell ⟨lb, 1, none⟩ (.slice ao2 (n + 1) cap2)).cell? ⟨xb, 1, none⟩ = some (.int .i64 r.head) ∧ (w8.setCell ⟨lb, 1, none⟩ (.slice ao2 (n + 1) cap2)).cell? ⟨xb, 2, none⟩ = some (.int .i64 r.who) ∧ (w8.setCell ⟨lb, 1, none⟩ (.slice ao2 (n + 1) cap2)).cell? ⟨xb, 3, none⟩ = some (.int .i64 r.a) ∧ (w8.setCell ⟨lb, 1, none⟩ (.slice ao2 (n + 1) cap2)).cell? ⟨xb, 4, none⟩ = some (.int .i64 r.b) ∧ (w8.setCell ⟨lb, 1, none⟩ (.slice ao2 (n + 1) cap2)).cell? ⟨xb, 5, none⟩ = some (.int .i64 r.via)) ∧ Hid (Calls Tryd.prog 26 #[.pointer (some ⟨lb, 0, none⟩), .agg #[.int .i64 r.kind, .int .i64 r.head, .int .i64 r.who, .int .i64 r.a, .int .i64 r.b, .int .i64 r.via]] (w8.setCell ⟨lb, 1, none⟩ (.slice ao2 (n + 1) cap2)) fun e W' => ∃ u, e = .returned u ∧ Hid (AddPost2 z W lb P K rs Fp r (.returned (.tuple #[u, .int .i64 0])) W'))) := fun ao2 cap2 w8 hown hg ho => by
        have hzs : z ≤ (wD.alloc (.cells #[.int .i64 r.kind, .int .i64 r.head, .int .i64 r.who, .int .i64 r.a, .int .i64 r.b, .int .i64 r.via] 29)).heap.size := by
          have h1 := (HK1.out.trans (HKB.out.trans kal)).size
          omega
        obtain ⟨p1, p2, p3, p4, p5⟩ := hLA.push HNN.out hown hg ho HRG.out (by omega) hzs
        have hbx := (kal.block _ (lt_of_heap ((HKB.out.block _ (lt_of_heap HAL.out) (fun x => x)).trans HAL.out)) (fun x => x)).trans ((HKB.out.block _ (lt_of_heap HAL.out) (fun x => x)).trans HAL.out)
        have hxz : (Value.slice av n cv).ownBlock ≠ some xb := fun e => by
          have := HLM.out.lt xb (.inr (.inr e))
          omega
        have hxl : xb ≠ lb := by omega
        have e8 := (p4.block _ (lt_of_heap hbx) hxz).trans hbx
        have e9 := (p5.block _ (lt_of_heap e8) hxl).trans e8
        refine ⟨p2, p3, ?_, ?_, ?_⟩
        · refine ⟨?_, ?_, ?_, ?_, ?_, ?_⟩ <;> (rw [cell_of_heap e8]; rfl)
        · refine ⟨?_, ?_, ?_, ?_, ?_, ?_⟩ <;> (rw [cell_of_heap e9]; rfl)
        · have hlv0 : ∀ k, lvFp lb fb bw rb (P * K) (.slice av n cv) k → k < W.heap.size := HLM.out.lt
          have hk9 : Keeps (lvFp lb fb bw rb (P * K) (.slice av n cv)) W (w8.setCell ⟨lb, 1, none⟩ (.slice ao2 (n + 1) cap2)) := by
            have h1 : Keeps (lvFp lb fb bw rb (P * K) (.slice av n cv)) W (wD.alloc (.cells #[.int .i64 r.kind, .int .i64 r.head, .int .i64 r.who, .int .i64 r.a, .int .i64 r.b, .int .i64 r.via] 29)) := (HK1.out.trans (HKB.out.trans kal)).mono (fun _ _ x => x.elim)
            have h2 : Keeps (lvFp lb fb bw rb (P * K) (.slice av n cv)) (wD.alloc (.cells #[.int .i64 r.kind, .int .i64 r.head, .int .i64 r.who, .int .i64 r.a, .int .i64 r.b, .int .i64 r.via] 29)) w8 := p4.mono (fun k _ e => .inr (.inr e))
            have h3 : Keeps (lvFp lb fb bw rb (P * K) (.slice av n cv)) w8 (w8.setCell ⟨lb, 1, none⟩ (.slice ao2 (n + 1) cap2)) := p5.mono (fun k _ e => .inl e)
            exact (h1.trans h2).trans h3
          have hT9 : TabIn (w8.setCell ⟨lb, 1, none⟩ (.slice ao2 (n + 1) cap2)) := HTW.out.keeps hk9 (fun hf => by have := HLM.out.ge _ hf; omega)
          have hfl := FlI.start (rs := rs) (r := r) HLM.out.right HIn.out
          refine (follow_spec p1 hz hT9 hfl).mono ?_
          rintro e W' ⟨u, In2, tot2, out, rfl, h2⟩
          obtain ⟨q1, q2, q3, q4, q5⟩ := h2.out
          have hni : r ∉ rs := of_decide_eq_false HCB.out
          have hall : ∀ x ∈ rs ++ [r], rightB P K x = true := p1.right
          refine ⟨u, rfl, u, 0, rs ++ [r], sortP out, lvFp lb fb bw rb (P * K) (.slice ao2 (n + 1) cap2), rfl, ⟨fb, bw, rb, _, In2, tot2, q1, ?_, q2.done hall, fun k => Iff.rfl⟩, ⟨?_, ?_⟩, q3, fun k e => Nat.le_trans hk9.size (q4 k e), .inr (.inr ⟨HRG.out, hni, rfl, diff_of hall HIn.out q2, rfl⟩)⟩
          · rw [List.nodup_append]
            refine ⟨HND.out, by simp, fun a ha b hb e => ?_⟩
            rw [List.mem_singleton] at hb
            subst e
            subst hb
            exact hni ha
          · exact (hk9.trans (q5.mono (fun k _ e => .inr (.inl e)))).mono (fun k _ e => (HFP.out k).2 e)
          · rintro k (hk | hk | hk)
            · exact .inl ((HFP.out k).2 (.inl hk))
            · exact .inl ((HFP.out k).2 (.inr (.inl hk)))
            · rcases ho k hk with h1 | h1
              · exact .inl ((HFP.out k).2 (.inr (.inr h1)))
              · exact .inr (Nat.le_trans (HK1.out.trans (HKB.out.trans kal)).size h1)
      clear h2 hLA kal hkB HKB HS HI HK1 HLM HFP HIn HND HAL HTW HCB
      go_upto_region 5 with fail
      (try simp only [hwD])
      refine wp_region_noPanic ?_
      refine wp_region_held_drew (S := (fun w' => (w'.cell? ⟨xb, 0, none⟩ = some (.int .i64 r.kind) ∧ w'.cell? ⟨xb, 1, none⟩ = some (.int .i64 r.head) ∧ w'.cell? ⟨xb, 2, none⟩ = some (.int .i64 r.who) ∧ w'.cell? ⟨xb, 3, none⟩ = some (.int .i64 r.a) ∧ w'.cell? ⟨xb, 4, none⟩ = some (.int .i64 r.b) ∧ w'.cell? ⟨xb, 5, none⟩ = some (.int .i64 r.via)))) (by kernel_rfl) (by rw [hwD]; exact H2) (fun hHeld => ?_)
      refine wpAnyH_take_at (i := 0) (v := ?v0e) rfl (by kernel_rfl) (by kernel_rfl) (by kernel_rfl) (fun _ _ _ h => h) (Or.inl ⟨by rfl, ?y0e⟩) hHeld ?r0e
      case y0e => (intro w hSw; (try dsimp only at hSw); go_simp; first | done | with_reducible rfl)
      (try simp only [Act.put, List.setIfInBounds_toArray, List.set_cons_zero, List.set_cons_succ])
      refine wpAnyH_take_at (i := 1) (v := ?v1e) rfl (by kernel_rfl) (by kernel_rfl) (by kernel_rfl) (fun _ _ _ h => h) (Or.inl ⟨by rfl, ?y1e⟩) hHeld ?r1e
      case y1e => (intro w hSw; (try dsimp only at hSw); go_simp; first | done | with_reducible rfl)
      (try simp only [Act.put, List.setIfInBounds_toArray, List.set_cons_zero, List.set_cons_succ])
      refine wpAnyH_take_at (i := 2) (v := ?v2e) rfl (by kernel_rfl) (by kernel_rfl) (by kernel_rfl) (fun _ _ _ h => h) (Or.inl ⟨by rfl, ?y2e⟩) hHeld ?r2e
      case y2e => (intro w hSw; (try dsimp only at hSw); go_simp; first | done | with_reducible rfl)
      (try simp only [Act.put, List.setIfInBounds_toArray, List.set_cons_zero, List.set_cons_succ])
      refine wpAnyH_take_at (i := 3) (v := ?v3e) rfl (by kernel_rfl) (by kernel_rfl) (by kernel_rfl) (fun _ _ _ h => h) (Or.inl ⟨by rfl, ?y3e⟩) hHeld ?r3e
      case y3e => (intro w hSw; (try dsimp only at hSw); go_simp; first | done | with_reducible rfl)
      (try simp only [Act.put, List.setIfInBounds_toArray, List.set_cons_zero, List.set_cons_succ])
      refine wpAnyH_take_at (i := 5) (v := ?v5e) rfl (by kernel_rfl) (by kernel_rfl) (by kernel_rfl) (fun _ _ _ h => h) (Or.inl ⟨by rfl, ?y5e⟩) hHeld ?r5e
      case y5e => (intro w hSw; (try dsimp only at hSw); go_simp; first | done | with_reducible rfl)
      (try simp only [Act.put, List.setIfInBounds_toArray, List.set_cons_zero, List.set_cons_succ])
      (try simp only [hwD])
      refine wpAnyH_ready (rs := [4, 6]) (by kernel_rfl) (by simp) (AllReadyH.cons (get_at rfl) (fun KK hK => ?_) (AllReadyH.cons (get_at rfl) (fun KK hK => ?_) AllReadyH.nil))
      · go_simp
        refine hK.out _ _ ?s4x (fun hHeld => ?_)
        case s4x => exact H2
        clear hK KK
        (try simp only [Act.put, List.setIfInBounds_toArray, List.set_cons_zero, List.set_cons_succ])
        refine wpAnyH_one (i := 6) (by kernel_rfl) rfl (fun KK hK => ?_)
        go_simp
        refine hK.out _ _ ?s6x (fun hHeld => ?_)
        case s6x => exact H2a
        clear hK KK
        (try simp only [Act.put, List.setIfInBounds_toArray, List.set_cons_zero, List.set_cons_succ])
        refine wpAnyH_one (i := 7) (by kernel_rfl) rfl (fun KK hK => ?_)
        refine step_append_tail rfl (.tmp 41) (.tmp 43) 38 rfl 29 i1 _ 6 48 Tryd.underlying38 hi1 hy0 hy1 hy2 rfl (by decide) (.slice av n cv) n (rlCells rs) (by simp [Act.eval, Act.put]) HTD.out ⟨wD.heap.size, 0, none⟩ 1 1 [.int .i64 r.kind, .int .i64 r.head, .int .i64 r.who, .int .i64 r.a, .int .i64 r.b, .int .i64 r.via] (by simp [Act.eval, Act.put]) rfl (cells_new wD _ _) (by intro u hu; simp only [List.mem_cons, List.not_mem_nil, or_false] at hu; rcases hu with rfl | rfl | rfl | rfl | rfl | rfl <;> rfl) (by decide) (by unfold maxLen; omega) (by omega) ?_
        intro ao2 cap2 w8 hown hgrow horig
        obtain ⟨e1, e2, e3, e4, HFO⟩ := HG.out _ _ _ hown hgrow horig
        clear hown hgrow horig
        refine hK.out _ _ ?s7x (fun hHeld => ?_)
        case s7x => exact e3
        clear hK KK
        (try simp only [Act.put, List.setIfInBounds_toArray, List.set_cons_zero, List.set_cons_succ])
        refine wpAnyH_take_at (i := 8) (v := ?v8x) rfl (by kernel_rfl) (by kernel_rfl) (by kernel_rfl) (fun _ _ _ h => h) (Or.inl ⟨by rfl, ?y8x⟩) hHeld ?r8x
        case y8x => (intro w hSw; (try dsimp only at hSw); go_simp; first | done | with_reducible rfl)
        (try simp only [Act.put, List.setIfInBounds_toArray, List.set_cons_zero, List.set_cons_succ])
        refine wpAnyH_take_at (i := 9) (v := ?v9x) rfl (by kernel_rfl) (by kernel_rfl) (by kernel_rfl) (fun _ _ _ h => h) (Or.inl ⟨by rfl, ?y9x⟩) hHeld ?r9x
        case y9x => (intro w hSw; (try dsimp only at hSw); go_simp; first | done | with_reducible rfl)
        (try simp only [Act.put, List.setIfInBounds_toArray, List.set_cons_zero, List.set_cons_succ])
        refine wpAnyH_one (i := 10) (by kernel_rfl) rfl (fun KK hK => ?_)
        go_simp
        refine hK.out _ _ ?s10x (fun hHeld => ?_)
        case s10x => exact e4
        clear hK KK
        (try simp only [Act.put, List.setIfInBounds_toArray, List.set_cons_zero, List.set_cons_succ])
        refine wpAnyH_done (by kernel_rfl) ?_ _
        refine NoPanic.normal ?_
        obtain ⟨b0, b1, b2, b3, b4, b5⟩ := e4
        clear hHeld HG e1 e2 e3 H2 H2a c1 c1a HTD
        go_wp2_with (go_at_call 26; refine HFO.out.mono ?_; rintro e w' ⟨u, rfl, hu⟩)
        have HF := Lib.hid hu.out
        clear HFO hu b0 b1 b2 b3 b4 b5
        go_ret2
        exact HF.out
      · go_simp
        refine hK.out _ _ ?s6z (fun hHeld => ?_)
        case s6z => exact H2a
        clear hK KK
        (try simp only [Act.put, List.setIfInBounds_toArray, List.set_cons_zero, List.set_cons_succ])
        refine wpAnyH_one (i := 4) (by kernel_rfl) rfl (fun KK hK => ?_)
        go_simp
        refine hK.out _ _ ?s4z (fun hHeld => ?_)
        case s4z => exact H2a
        clear hK KK
        (try simp only [Act.put, List.setIfInBounds_toArray, List.set_cons_zero, List.set_cons_succ])
        refine wpAnyH_one (i := 7) (by kernel_rfl) rfl (fun KK hK => ?_)
        refine step_append_tail rfl (.tmp 41) (.tmp 43) 38 rfl 29 i1 _ 6 48 Tryd.underlying38 hi1 hy0 hy1 hy2 rfl (by decide) (.slice av n cv) n (rlCells rs) (by simp [Act.eval, Act.put]) HTD.out ⟨wD.heap.size, 0, none⟩ 1 1 [.int .i64 r.kind, .int .i64 r.head, .int .i64 r.who, .int .i64 r.a, .int .i64 r.b, .int .i64 r.via] (by simp [Act.eval, Act.put]) rfl (cells_new wD _ _) (by intro u hu; simp only [List.mem_cons, List.not_mem_nil, or_false] at hu; rcases hu with rfl | rfl | rfl | rfl | rfl | rfl <;> rfl) (by decide) (by unfold maxLen; omega) (by omega) ?_
        intro ao2 cap2 w8 hown hgrow horig
        obtain ⟨e1, e2, e3, e4, HFO⟩ := HG.out _ _ _ hown hgrow horig
        clear hown hgrow horig
        refine hK.out _ _ ?s7z (fun hHeld => ?_)
        case s7z => exact e3
        clear hK KK
        (try simp only [Act.put, List.setIfInBounds_toArray, List.set_cons_zero, List.set_cons_succ])
        refine wpAnyH_take_at (i := 8) (v := ?v8z) rfl (by kernel_rfl) (by kernel_rfl) (by kernel_rfl) (fun _ _ _ h => h) (Or.inl ⟨by rfl, ?y8z⟩) hHeld ?r8z
        case y8z => (intro w hSw; (try dsimp only at hSw); go_simp; first | done | with_reducible rfl)
        (try simp only [Act.put, List.setIfInBounds_toArray, List.set_cons_zero, List.set_cons_succ])
        refine wpAnyH_take_at (i := 9) (v := ?v9z) rfl (by kernel_rfl) (by kernel_rfl) (by kernel_rfl) (fun _ _ _ h => h) (Or.inl ⟨by rfl, ?y9z⟩) hHeld ?r9z
        case y9z => (intro w hSw; (try dsimp only at hSw); go_simp; first | done | with_reducible rfl)
        (try simp only [Act.put, List.setIfInBounds_toArray, List.set_cons_zero, List.set_cons_succ])
        refine wpAnyH_one (i := 10) (by kernel_rfl) rfl (fun KK hK => ?_)
        go_simp
        refine hK.out _ _ ?s10z (fun hHeld => ?_)
        case s10z => exact e4
        clear hK KK
        (try simp only [Act.put, List.setIfInBounds_toArray, List.set_cons_zero, List.set_cons_succ])
        refine wpAnyH_done (by kernel_rfl) ?_ _
        refine NoPanic.normal ?_
        obtain ⟨b0, b1, b2, b3, b4, b5⟩ := e4
        clear hHeld HG e1 e2 e3 H2 H2a c1 c1a HTD
        go_wp2_with (go_at_call 26; refine HFO.out.mono ?_; rintro e w' ⟨u, rfl, hu⟩)
        have HF := Lib.hid hu.out
        clear HFO hu b0 b1 b2 b3 b4 b5
        go_ret2
        exact HF.out
end Go.Proofs.YtaabmkebbnkonaaDoor
