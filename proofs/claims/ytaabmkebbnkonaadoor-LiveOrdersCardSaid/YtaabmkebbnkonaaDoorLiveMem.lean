/-
  Who is in which role, and by which rules, in memory; rows of pairs.
-/
import Derived.Test.YtaabmkebbnkonaaDoorMD
import Derived.Test.YtaabmkebbnkonaaDoorME
import Derived.Test.YtaabmkebbnkonaaDoorSemRightAll
import Derived.Test.YtaabmkebbnkonaaDoorLivePlain
set_option linter.unusedVariables false
set_option linter.unusedSimpArgs false
set_option linter.unnecessarySimpa false
namespace Go.Proofs.YtaabmkebbnkonaaDoor
open Go.ChangeShapes Go.WideShapes Go.ChangeAt Go.RowKit Go.Deep SetPlain
/-- Pairs, number by number. -/
def pcs : List (Nat × Nat) → List Value
  | [] => []
  | p :: l => .int .i64 (p.1 : Int) :: .int .i64 (p.2 : Int) :: pcs l
theorem pcs_append : ∀ (l m : List (Nat × Nat)), pcs (l ++ m) = pcs l ++ pcs m
  | [], m => rfl
  | p :: l, m => by rw [List.cons_append, pcs, pcs, pcs_append l m]; rfl
theorem pcs_length : ∀ l : List (Nat × Nat), (pcs l).length = l.length * 2
  | [] => rfl
  | p :: l => by
    show (pcs l).length + 1 + 1 = (l.length + 1) * 2
    rw [pcs_length l]; omega
theorem pcs_get : ∀ (l : List (Nat × Nat)) (i : Nat) (p : Nat × Nat), l[i]? = some p → (pcs l)[i * 2]? = some (.int .i64 (p.1 : Int)) ∧ (pcs l)[i * 2 + 1]? = some (.int .i64 (p.2 : Int))
  | q :: l, 0, p, h => by
    simp only [List.getElem?_cons_zero, Option.some.injEq] at h
    subst h
    exact ⟨rfl, rfl⟩
  | q :: l, i + 1, p, h => by
    rw [List.getElem?_cons_succ] at h
    obtain ⟨h1, h2⟩ := pcs_get l i p h
    rw [show (i + 1) * 2 = i * 2 + 1 + 1 by omega]
    exact ⟨h1, h2⟩
theorem pairInfo : (Tryd.prog.info? 22).map (fun i => (i.zero, i.size, i.bytes)) = some (some (.agg #[.int .i64 0, .int .i64 0]), 2, 16) := by kernel_rfl
/-- A row of pairs of the program's own. -/
def OwnP (z : Nat) (W : World) (v : Value) (L : List (Nat × Nat)) : Prop := W.ownsRow z 22 2 v L.length (pcs L)
/-- A row of pairs that is read. -/
def ReadsP (w : World) (v : Value) (L : List (Nat × Nat)) : Prop :=
  ∃ ao cap, v = .slice ao L.length cap ∧ L.length ≤ cap ∧ (0 < L.length → ∃ g o, ao = some ⟨g, o, none⟩ ∧ g < w.heap.size ∧ ∀ (j : Nat) (p : Nat × Nat), L[j]? = some p → w.cell? ⟨g, o + j * 2, none⟩ = some (.int .i64 (p.1 : Int)) ∧ w.cell? ⟨g, o + j * 2 + 1, none⟩ = some (.int .i64 (p.2 : Int)))
/-- A row of pairs of the program's own, which may begin within its block. -/
def TlP (W : World) (v : Value) (L : List (Nat × Nat)) : Prop := TailRow W 22 2 v L.length (pcs L)
theorem TlP.reads {W : World} {v : Value} {L : List (Nat × Nat)} (h : TlP W v L) : ReadsP W v L := by
  obtain ⟨ao, cap, hv, hle, _, _, hc⟩ := TailRow.form h
  refine ⟨ao, cap, hv, hle, fun h0 => ?_⟩
  obtain ⟨g, k, h1, h2, h3⟩ := hc h0
  exact ⟨g, k, h1, h2, fun j p hj => ⟨h3 _ _ (pcs_get L j p hj).1, h3 _ _ (pcs_get L j p hj).2⟩⟩
theorem OwnP.tail {z : Nat} {W : World} {v : Value} {L : List (Nat × Nat)} (h : OwnP z W v L) : TlP W v L := TailRow.of_own h
theorem OwnP.reads {z : Nat} {W : World} {v : Value} {L : List (Nat × Nat)} (h : OwnP z W v L) : ReadsP W v L := h.tail.reads
theorem ReadsP.keeps {w w' : World} {v : Value} {L : List (Nat × Nat)} {S : Nat → Prop} (h : ReadsP w v L) (hk : Keeps S w w') (hs : ∀ k, v.ownBlock = some k → ¬ S k) : ReadsP w' v L := by
  obtain ⟨ao, cap, hv, hle, hr⟩ := h
  refine ⟨ao, cap, hv, hle, fun h0 => ?_⟩
  obtain ⟨g, o, h1, h2, h3⟩ := hr h0
  have hg : ¬ S g := hs g (by rw [hv, h1]; rfl)
  exact ⟨g, o, h1, Nat.lt_of_lt_of_le h2 hk.size, fun j p hj => ⟨(hk.cell (p := ⟨g, o + j * 2, none⟩) h2 hg).trans (h3 j p hj).1, (hk.cell (p := ⟨g, o + j * 2 + 1, none⟩) h2 hg).trans (h3 j p hj).2⟩⟩
theorem OwnP.keeps {z : Nat} {W W' : World} {v : Value} {L : List (Nat × Nat)} {S : Nat → Prop} (h : OwnP z W v L) (hk : Keeps S W W') (hs : ∀ k, v.ownBlock = some k → ¬ S k) : OwnP z W' v L := ownsRow_keeps' h hk hs
/-- A row of rules of the program's own. -/
def OwnR (z : Nat) (W : World) (v : Value) (S : List Rl) : Prop := W.ownsRow z 29 6 v S.length (rlCells S)
theorem OwnR.rules {z : Nat} {W : World} {v : Value} {S : List Rl} (h : OwnR z W v S) : ∃ ao cap, v = .slice ao S.length cap ∧ S.length ≤ cap ∧ RuleRow W ao S := by
  obtain ⟨ao, cap, rfl, hle, _, hno, hc⟩ := own_form h
  refine ⟨ao, cap, rfl, hle, fun h0 => ?_⟩
  cases ao with
  | none => have := (hno rfl).1; omega
  | some b =>
    obtain ⟨q1, q2, q3, q4, q5⟩ := hc b rfl
    obtain ⟨b, o, sp⟩ := b
    simp only at q1 q2 q3 q4 q5
    subst q1 q2
    refine ⟨b, 0, rfl, q3, fun i r hr => ?_⟩
    have hx : ∀ (t : Nat) (u : Value), r.cells[t]? = some u → W.cell? ⟨b, 0 + i * 6 + t, none⟩ = some u := fun t u hu => by
      have := q5 _ u (rlCells_get S i r hr t u hu)
      rw [show 0 + i * 6 + t = i * 6 + t by omega]
      exact this
    exact ⟨hx 0 _ rfl, hx 1 _ rfl, hx 2 _ rfl, hx 3 _ rfl, hx 4 _ rfl, hx 5 _ rfl⟩
theorem OwnR.keeps {z : Nat} {W W' : World} {v : Value} {L : List Rl} {S : Nat → Prop} (h : OwnR z W v L) (hk : Keeps S W W') (hs : ∀ k, v.ownBlock = some k → ¬ S k) : OwnR z W' v L := ownsRow_keeps' h hk hs
def lvObj (fb : Nat) (v : Value) (P K : Nat) : Obj := .cells #[.pointer (some ⟨fb, 0, none⟩), v, .int .i64 P, .int .i64 K] 58 (0, 0)
/-- Who is in which role, and by which rules. -/
structure LvMem (z : Nat) (W : World) (lb fb bw : Nat) (rb : Nat → Nat) (P K : Nat) (v : Value) (In : Nat → Nat → Bool) (tot : Nat) (rs : List Rl) : Prop where
  obj : W.heap[lb]? = some (lvObj fb v P K)
  fam : FamMem W fb bw rb (P * K) P In tot
  row : TailRow W 29 6 v rs.length (rlCells rs)
  zv : ∀ k, v.ownBlock = some k → z ≤ k
  lf : ¬ famFp fb bw rb (P * K) lb
  vl : v.ownBlock ≠ some lb
  vf : ∀ k, v.ownBlock = some k → ¬ famFp fb bw rb (P * K) k
  zl : z ≤ lb
  zf : ∀ k, famFp fb bw rb (P * K) k → z ≤ k
  hP : P ≤ 64
  hK : K ≤ 64
  len : rs.length ≤ 1000
  tot_ : tot = totIn P (P * K) In
  right : ∀ r ∈ rs, rightB P K r = true
/-- The blocks of it. -/
def lvFp (lb fb bw : Nat) (rb : Nat → Nat) (N : Nat) (v : Value) : Nat → Prop := fun k => k = lb ∨ famFp fb bw rb N k ∨ v.ownBlock = some k
section
variable {z : Nat} {W W' : World} {lb fb bw : Nat} {rb : Nat → Nat} {P K : Nat} {v : Value} {In : Nat → Nat → Bool} {tot : Nat} {rs : List Rl}
theorem LvMem.keeps (h : LvMem z W lb fb bw rb P K v In tot rs) {S : Nat → Prop} (hk : Keeps S W W') (hs : ∀ k, lvFp lb fb bw rb (P * K) v k → ¬ S k) : LvMem z W' lb fb bw rb P K v In tot rs :=
  ⟨(hk.block _ (lt_of_heap h.obj) (hs _ (.inl rfl))).trans h.obj, h.fam.keeps hk (fun k hf => hs _ (.inr (.inl hf))), TailRow.keeps h.row hk (fun k hf => hs _ (.inr (.inr hf))), h.zv, h.lf, h.vl, h.vf, h.zl, h.zf, h.hP, h.hK, h.len, h.tot_, h.right⟩
theorem LvMem.quiet (h : LvMem z W lb fb bw rb P K v In tot rs) (hk : Keeps (fun _ => False) W W') : LvMem z W' lb fb bw rb P K v In tot rs := h.keeps hk (fun _ _ x => x)
theorem LvMem.lt (h : LvMem z W lb fb bw rb P K v In tot rs) : ∀ k, lvFp lb fb bw rb (P * K) v k → k < W.heap.size := by
  rintro k (rfl | hf | hv)
  · exact lt_of_heap h.obj
  · exact h.fam.lt k hf
  · obtain ⟨_, hc⟩ := TailRow.lt h.row k hv
    exact lt_of_heap hc
theorem LvMem.ge (h : LvMem z W lb fb bw rb P K v In tot rs) : ∀ k, lvFp lb fb bw rb (P * K) v k → z ≤ k := by
  rintro k (rfl | hf | hv)
  · exact h.zl
  · exact h.zf k hf
  · exact h.zv k hv
theorem LvMem.cells (h : LvMem z W lb fb bw rb P K v In tot rs) : W.cell? ⟨lb, 0, none⟩ = some (.pointer (some ⟨fb, 0, none⟩)) ∧ W.cell? ⟨lb, 1, none⟩ = some v ∧ W.cell? ⟨lb, 2, none⟩ = some (.int .i64 P) ∧ W.cell? ⟨lb, 3, none⟩ = some (.int .i64 K) := by
  have h0 := h.obj
  unfold lvObj at h0
  refine ⟨?_, ?_, ?_, ?_⟩ <;> (rw [cell_of_heap h0]; rfl)
theorem LvMem.le (h : LvMem z W lb fb bw rb P K v In tot rs) : tot ≤ 1000000 := by
  rw [h.tot_]
  have h1 := totIn_le P (P * K) In
  have h2 : P * (P * K) ≤ 64 * (64 * 64) := Nat.mul_le_mul h.hP (Nat.mul_le_mul h.hP h.hK)
  omega
end
/-- The closure's state: what came so far, in a box, behind a world. -/
structure ObS (w0 W : World) (r : Rl) (L : List (Nat × Nat)) (ov : Value) : Prop where
  box : W.heap[w0.heap.size + 1]? = some (.cells #[ov] 32 (0, 0))
  own : OwnP (w0.heap.size + 2) W ov L
  rx : W.heap[w0.heap.size]? = some (.cells #[.int .i64 r.kind, .int .i64 r.head, .int .i64 r.who, .int .i64 r.a, .int .i64 r.b, .int .i64 r.via] 29 (0, 0))
  kp : Keeps (fun _ => False) w0 W
theorem ObS.quiet {w0 W W' : World} {r : Rl} {L : List (Nat × Nat)} {ov : Value} (h : ObS w0 W r L ov) (hk : Keeps (fun _ => False) W W') : ObS w0 W' r L ov :=
  ⟨(hk.block _ (lt_of_heap h.box) (fun x => x)).trans h.box, h.own.keeps hk (fun _ _ x => x), (hk.block _ (lt_of_heap h.rx) (fun x => x)).trans h.rx, h.kp.trans hk⟩
/-- A row of numbers that the program has made. -/
def LsR (W : World) (u : Value) (l : List Nat) : Prop := ∃ base, W.ownsRow base 3 1 u l.length (l.map intV)
theorem LsR.quiet {W W' : World} {u : Value} {l : List Nat} (h : LsR W u l) (hk : Keeps (fun _ => False) W W') : LsR W' u l := by
  obtain ⟨base, h1⟩ := h
  exact ⟨base, ownsRow_keeps' h1 hk (fun _ _ x => x)⟩
theorem own_block_type {W : World} {base e size : Nat} {v : Value} {n : Nat} {xs : List Value} (h : W.ownsRow base e size v n xs) {k : Nat} (hk : v.ownBlock = some k) : ∃ cur, W.heap[k]? = some (.cells cur e (0, 0)) := by
  obtain ⟨_, ⟨rfl, _⟩ | ⟨g, cap, cur, rfl, hg, hh, _⟩⟩ := h
  · cases hk
  · simp only [Value.ownBlock, Option.some.injEq] at hk
    subst hk
    exact ⟨cur, hh⟩
theorem LsR.keep {W W' : World} {u : Value} {l : List Nat} (h : LsR W u l) {S : Nat → Prop} (hk : Keeps S W W') (hs : ∀ k cur, S k → W.heap[k]? ≠ some (.cells cur 3 (0, 0))) : LsR W' u l := by
  obtain ⟨base, h1⟩ := h
  refine ⟨base, ownsRow_keeps' h1 hk (fun k hk2 hS => ?_)⟩
  obtain ⟨cur, hc⟩ := own_block_type h1 hk2
  exact hs k cur hS hc
set_option maxRecDepth 100000
set_option maxHeartbeats 3200000
theorem bput_spec {w0 W : World} {r : Rl} {L : List (Nat × Nat)} {ov : Value} (h : ObS w0 W r L ov) (hl : L.length ≤ 100000) (h0 : 0 ≤ r.head) (who : Nat) :
    Calls Tryd.prog 50 #[.int .i64 who, .pointer (some ⟨w0.heap.size + 1, 0, none⟩), .pointer (some ⟨w0.heap.size, 0, none⟩)] W fun e W' => e = .returned (.tuple #[]) ∧ Hid (∃ ov', ObS w0 W' r (L ++ [(r.head.toNat, who)]) ov' ∧ ∀ u l, LsR W u l → LsR W' u l) := by
  obtain ⟨i0, hi0, hz0, hz1, hz2⟩ := info_parts pairInfo
  have b0 : W.cell? ⟨w0.heap.size + 1, 0, none⟩ = some ov := by rw [cell_of_heap h.box]; rfl
  have r1 : W.cell? ⟨w0.heap.size, 1, none⟩ = some (.int .i64 r.head) := by rw [cell_of_heap h.rx]; rfl
  have HOW : Hid (W.ownsRow (w0.heap.size + 2) 22 2 ov L.length (pcs L)) := h.own
  have HH := Lib.hid h
  have hsz : w0.heap.size + 1 < W.heap.size := lt_of_heap h.box
  obtain ⟨hd, hhd⟩ : ∃ hd : Nat, r.head = hd := ⟨r.head.toNat, by omega⟩
  have HD := Lib.hid hhd
  rw [hhd] at r1
  clear h hhd
  go_enter Tryd.func50, Tryd.ntmps50
  go_wp2_with (at_builtin; refine wpList_append_own _ rfl _ _ 32 rfl (w0.heap.size + 2) 22 i0 _ 2 16 Tryd.underlying32 hi0 hz0 hz1 hz2 rfl (by decide) _ _ _ rfl (HOW.out.alloc _) ⟨W.heap.size, 0, none⟩ 1 1 [.int .i64 (hd : Int), .int .i64 (who : Int)] rfl rfl (cells_new W _ _) (by intro u hu; simp only [List.mem_cons, List.not_mem_nil, or_false] at hu; rcases hu with rfl | rfl <;> rfl) (by unfold maxLen; omega) (by omega) (by simp; omega) ?_)
  intro v2 w6 hown2 hgrow _
  obtain ⟨ao2, cap2, hv2, _, _, _, _⟩ := own_form hown2
  subst hv2
  have k1 : Keeps (fun _ => False) W (W.alloc (.cells #[.int .i64 (hd : Int), .int .i64 (who : Int)] 22)) := (Keeps.refl _ _).alloc _
  have k2 := keeps_grown hgrow
  have hob := own_block HOW.out
  have kb : w6.heap[w0.heap.size + 1]? = some (.cells #[ov] 32 (0, 0)) := by
    rw [k2.block _ (by simp; omega) (fun e => by have := hob _ e; omega), k1.block _ (by omega) (fun x => x)]
    exact HH.out.box
  have kr : w6.heap[w0.heap.size]? = some (.cells #[.int .i64 r.kind, .int .i64 r.head, .int .i64 r.who, .int .i64 r.a, .int .i64 r.b, .int .i64 r.via] 29 (0, 0)) := by
    rw [k2.block _ (by simp; omega) (fun e => by have := hob _ e; omega), k1.block _ (by omega) (fun x => x)]
    exact HH.out.rx
  have b6 : w6.cell? ⟨w0.heap.size + 1, 0, none⟩ = some ov := by rw [cell_of_heap kb]; rfl
  have f6 : w6.frozen? ⟨w0.heap.size + 1, 0, none⟩ = false := free_of_heap kb 0
  have HN : Hid (∃ ov', ObS w0 (w6.setCell ⟨w0.heap.size + 1, 0, none⟩ (.slice ao2 (L.length + 1) cap2)) r (L ++ [(r.head.toNat, who)]) ov' ∧ ∀ u l, LsR W u l → LsR (w6.setCell ⟨w0.heap.size + 1, 0, none⟩ (.slice ao2 (L.length + 1) cap2)) u l) := by
    have hs := heap_set kb 0 (.slice ao2 (L.length + 1) cap2)
    have kk : Keeps (fun x => x = w0.heap.size + 1) w6 (w6.setCell ⟨w0.heap.size + 1, 0, none⟩ (.slice ao2 (L.length + 1) cap2)) := Keeps.setCell (S := fun x => x = w0.heap.size + 1) (Keeps.refl _ w6) (p := ⟨w0.heap.size + 1, 0, none⟩) (fun _ => rfl) _
    have hown3 : OwnP (w0.heap.size + 2) w6 (.slice ao2 (L.length + 1) cap2) (L ++ [(r.head.toNat, who)]) := by
      show w6.ownsRow _ _ _ _ (L ++ [(r.head.toNat, who)]).length (pcs (L ++ [(r.head.toNat, who)]))
      rw [pcs_append, List.length_append, show r.head.toNat = hd from by have := HD.out; omega]
      exact hown2
    refine ⟨.slice ao2 (L.length + 1) cap2, ⟨hs, hown3.keeps kk (fun k e e2 => by have := own_block hown3 k e; omega), ?_, ?_⟩, fun u l hL => ?_⟩
    · rw [kk.block _ (lt_of_heap kr) (by omega)]; exact kr
    · refine ((HH.out.kp.trans k1).trans_new k2 (fun q hq e => by have := hob _ e; omega)).trans_new kk (fun q hq e => by omega)
    · have hl1 : LsR (W.alloc (.cells #[.int .i64 (hd : Int), .int .i64 (who : Int)] 22)) u l := hL.quiet k1
      have hl2 : LsR w6 u l := hl1.keep k2 (fun k cur hS hc => by
        obtain ⟨cur2, hc2⟩ := own_block_type (HOW.out.alloc (.cells #[.int .i64 (hd : Int), .int .i64 (who : Int)] 22)) hS
        rw [hc2] at hc
        simp only [Option.some.injEq, Obj.cells.injEq] at hc
        exact absurd hc.2.1 (by decide))
      exact hl2.keep kk (fun k cur hS hc => by
        subst hS
        rw [kb] at hc
        simp only [Option.some.injEq, Obj.cells.injEq] at hc
        exact absurd hc.2.1 (by decide))
  clear HOW hown2 hgrow k1 k2 hob kb kr HH b0 r1
  go_wp2_with fail
  first | go_ret | go_end0
  exact ⟨rfl, HN⟩
end Go.Proofs.YtaabmkebbnkonaaDoor
