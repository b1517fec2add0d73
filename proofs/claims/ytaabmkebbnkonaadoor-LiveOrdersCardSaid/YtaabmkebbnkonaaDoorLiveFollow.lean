/-
  A rule's pairs come, and all that follows of them: the walk.
-/
import Derived.Test.YtaabmkebbnkonaaDoorLiveBrings
import Derived.Test.YtaabmkebbnkonaaDoorLiveLooks
import Derived.Test.YtaabmkebbnkonaaDoorLiveIndex
import Derived.Test.YtaabmkebbnkonaaDoorLiveSort
import Derived.Deep.RegionHeld3
set_option linter.unusedVariables false
set_option linter.unusedSimpArgs false
set_option linter.unnecessarySimpa false
namespace Go.Proofs.YtaabmkebbnkonaaDoor
open Go.ChangeShapes Go.WideShapes Go.ChangeAt Go.RowKit Go.Deep SetPlain
theorem addIn_tot {P K : Nat} {In : Nat → Nat → Bool} {h c : Nat} (hh : h < P * K) (hc : c < P) : addTot (P * K) P In h c (totIn P (P * K) In) = totIn P (P * K) (addIn (P * K) P In h c) := by
  unfold addTot addIn
  rw [addB_nat hh hc]
  cases hi : In h c with
  | true => rw [Bool.not_true, if_neg (by decide), if_neg (by decide)]
  | false =>
    rw [Bool.not_false, if_pos rfl, if_pos rfl, show ((h : Nat) : Int).toNat = h from by omega, show ((c : Nat) : Int).toNat = c from by omega]
    have e : updIn In h c = setIn In h c := by
      funext i c'
      unfold updIn setIn upd
      by_cases e : i = h
      · subst e; simp
      · rw [if_neg e]; simp [e]
    rw [e, totIn_set hh hc hi]
/-- Where the following stands, in memory. -/
structure FoS (z : Nat) (W0 wy : World) (lb fb bw : Nat) (rb : Nat → Nat) (P K : Nat) (v : Value) (In : Nat → Nat → Bool) (tot : Nat) (rs : List Rl) (ov : Value) (out : List (Nat × Nat)) (tv : Value) (todo : List Rl) : Prop where
  lv : LvMem z wy lb fb bw rb P K v In tot rs
  own : TlP wy ov out
  ob : ∀ k, ov.ownBlock = some k → W0.heap.size ≤ k
  td : TailRow wy 29 6 tv todo.length (rlCells todo)
  tb : ∀ k, tv.ownBlock = some k → W0.heap.size ≤ k
  kp : Keeps (famFp fb bw rb (P * K)) W0 wy
  lt0 : ∀ k, lvFp lb fb bw rb (P * K) v k → k < W0.heap.size
section
variable {z : Nat} {W0 wy W' : World} {lb fb bw : Nat} {rb : Nat → Nat} {P K : Nat} {v : Value} {In : Nat → Nat → Bool} {tot : Nat} {rs : List Rl} {ov : Value} {out : List (Nat × Nat)} {tv : Value} {todo : List Rl}
theorem FoS.quiet (h : FoS z W0 wy lb fb bw rb P K v In tot rs ov out tv todo) (hk : Keeps (fun _ => False) wy W') : FoS z W0 W' lb fb bw rb P K v In tot rs ov out tv todo :=
  ⟨h.lv.quiet hk, TailRow.keeps h.own hk (fun _ _ x => x), h.ob, TailRow.keeps h.td hk (fun _ _ x => x), h.tb, h.kp.trans (hk.mono (fun _ _ x => x.elim)), h.lt0⟩
theorem LvMem.addKept (h : LvMem z wy lb fb bw rb P K v In tot rs) {i c : Nat} (hi : i < P * K) (hc : c < P) (hf : FamMem W' fb bw rb (P * K) P (addIn (P * K) P In i c) (addTot (P * K) P In i c tot)) (hk : Keeps (famFp fb bw rb (P * K)) wy W') :
    LvMem z W' lb fb bw rb P K v (addIn (P * K) P In i c) (addTot (P * K) P In i c tot) rs :=
  ⟨(hk.block _ (lt_of_heap h.obj) h.lf).trans h.obj, hf, TailRow.keeps h.row hk h.vf, h.zv, h.lf, h.vl, h.vf, h.zl, h.zf, h.hP, h.hK, h.len, by rw [h.tot_, addIn_tot hi hc], h.right⟩
theorem FoS.add (h : FoS z W0 wy lb fb bw rb P K v In tot rs ov out tv todo) {i c : Nat} (hi : i < P * K) (hc : c < P) (hf : FamMem W' fb bw rb (P * K) P (addIn (P * K) P In i c) (addTot (P * K) P In i c tot)) (hk : Keeps (famFp fb bw rb (P * K)) wy W') :
    FoS z W0 W' lb fb bw rb P K v (addIn (P * K) P In i c) (addTot (P * K) P In i c tot) rs ov out tv todo := by
  have hlt : ∀ k, famFp fb bw rb (P * K) k → k < W0.heap.size := fun k hk => h.lt0 k (.inr (.inl hk))
  exact ⟨h.lv.addKept hi hc hf hk, TailRow.keeps h.own hk (fun k e e2 => by have := h.ob k e; have := hlt k e2; omega), h.ob, TailRow.keeps h.td hk (fun k e e2 => by have := h.tb k e; have := hlt k e2; omega), h.tb, h.kp.trans hk, h.lt0⟩
/-- One pair more. -/
theorem FoS.grow (h : FoS z W0 wy lb fb bw rb P K v In tot rs ov out tv todo) {ov' : Value} {p : Nat × Nat} (hs : W0.heap.size ≤ wy.heap.size) (hown : TlP W' ov' (out ++ [p])) (hg : wy.grownBy W' ov.ownBlock) (ho : ∀ k, ov'.ownBlock = some k → ov.ownBlock = some k ∨ wy.heap.size ≤ k) (hne : ∀ k, ov.ownBlock = some k → tv.ownBlock ≠ some k) :
    FoS z W0 W' lb fb bw rb P K v In tot rs ov' (out ++ [p]) tv todo := by
  have hk := keeps_grown hg
  refine ⟨h.lv.keeps hk (fun k hf e => by have := h.ob k e; have := h.lt0 k hf; omega), hown, fun k e => ?_, TailRow.keeps h.td hk (fun k e e2 => hne k e2 e), h.tb, ?_, h.lt0⟩
  · rcases ho k e with h1 | h1
    · exact h.ob k h1
    · omega
  · exact h.kp.trans_new hk (fun k hkl e => by have := h.ob k e; omega)
/-- One rule more to be looked at. -/
theorem FoS.more (h : FoS z W0 wy lb fb bw rb P K v In tot rs ov out tv todo) {tv' : Value} {x : Rl} (hs : W0.heap.size ≤ wy.heap.size) (hown : TailRow W' 29 6 tv' (todo ++ [x]).length (rlCells (todo ++ [x]))) (hg : wy.grownBy W' tv.ownBlock) (ho : ∀ k, tv'.ownBlock = some k → tv.ownBlock = some k ∨ wy.heap.size ≤ k) (hne : ∀ k, ov.ownBlock = some k → tv.ownBlock ≠ some k) :
    FoS z W0 W' lb fb bw rb P K v In tot rs ov out tv' (todo ++ [x]) := by
  have hk := keeps_grown hg
  refine ⟨h.lv.keeps hk (fun k hf e => by have := h.tb k e; have := h.lt0 k hf; omega), TailRow.keeps h.own hk (fun k e e2 => hne k e e2), h.ob, hown, fun k e => ?_, ?_, h.lt0⟩
  · rcases ho k e with h1 | h1
    · exact h.tb k h1
    · omega
  · exact h.kp.trans_new hk (fun k hkl e => by have := h.tb k e; omega)
theorem FoS.apart (h : FoS z W0 wy lb fb bw rb P K v In tot rs ov out tv todo) : ∀ k, ov.ownBlock = some k → tv.ownBlock ≠ some k := fun k e e2 => by
  obtain ⟨c1, h1⟩ := TailRow.lt h.own k e
  obtain ⟨c2, h2⟩ := TailRow.lt h.td k e2
  rw [h1] at h2
  simp only [Option.some.injEq, Obj.cells.injEq] at h2
  exact absurd h2.2.1 (by decide)
theorem FoS.size (h : FoS z W0 wy lb fb bw rb P K v In tot rs ov out tv todo) : W0.heap.size ≤ wy.heap.size := h.kp.size
end
/-- A rule's box beside it. -/
structure Nx (W0 wy : World) (ov tv : Value) (nb : Nat) (next : Rl) : Prop where
  at_ : wy.heap[nb]? = some (.cells #[.int .i64 next.kind, .int .i64 next.head, .int .i64 next.who, .int .i64 next.a, .int .i64 next.b, .int .i64 next.via] 29 (0, 0))
  le : W0.heap.size ≤ nb
  no : ov.ownBlock ≠ some nb
  nt : tv.ownBlock ≠ some nb
theorem Nx.quiet {W0 wy W' : World} {ov tv : Value} {nb : Nat} {next : Rl} (h : Nx W0 wy ov tv nb next) (hk : Keeps (fun _ => False) wy W') : Nx W0 W' ov tv nb next :=
  ⟨(hk.block _ (lt_of_heap h.at_) (fun x => x)).trans h.at_, h.le, h.no, h.nt⟩
theorem Nx.keeps {W0 wy W' : World} {ov tv : Value} {nb : Nat} {next : Rl} {S : Nat → Prop} (h : Nx W0 wy ov tv nb next) (hk : Keeps S wy W') (hs : ¬ S nb) : Nx W0 W' ov tv nb next :=
  ⟨(hk.block _ (lt_of_heap h.at_) hs).trans h.at_, h.le, h.no, h.nt⟩
theorem Nx.grow {W0 wy W' : World} {ov ov' tv : Value} {nb : Nat} {next : Rl} (h : Nx W0 wy ov tv nb next) (hg : wy.grownBy W' ov.ownBlock) (ho : ∀ k, ov'.ownBlock = some k → ov.ownBlock = some k ∨ wy.heap.size ≤ k) : Nx W0 W' ov' tv nb next :=
  ⟨((keeps_grown hg).block _ (lt_of_heap h.at_) h.no).trans h.at_, h.le, fun e => by
    rcases ho _ e with h1 | h1
    · exact h.no h1
    · have := lt_of_heap h.at_; omega, h.nt⟩
theorem Nx.more {W0 wy W' : World} {ov tv tv' : Value} {nb : Nat} {next : Rl} (h : Nx W0 wy ov tv nb next) (hg : wy.grownBy W' tv.ownBlock) (ho : ∀ k, tv'.ownBlock = some k → tv.ownBlock = some k ∨ wy.heap.size ≤ k) : Nx W0 W' ov tv' nb next :=
  ⟨((keeps_grown hg).block _ (lt_of_heap h.at_) h.nt).trans h.at_, h.le, h.no, fun e => by
    rcases ho _ e with h1 | h1
    · exact h.nt h1
    · have := lt_of_heap h.at_; omega⟩
/-- The pairs that are brought, beside it. -/
structure BrR (W0 wy : World) (ov bv : Value) (BL : List (Nat × Nat)) : Prop where
  reads : ReadsP wy bv BL
  le : ∀ k, bv.ownBlock = some k → W0.heap.size ≤ k ∧ ov.ownBlock ≠ some k ∧ k < wy.heap.size
theorem BrR.keeps {W0 wy W' : World} {ov bv : Value} {BL : List (Nat × Nat)} {S : Nat → Prop} (h : BrR W0 wy ov bv BL) (hk : Keeps S wy W') (hs : ∀ k, W0.heap.size ≤ k → ¬ S k) : BrR W0 W' ov bv BL :=
  ⟨h.reads.keeps hk (fun k e => hs k (h.le k e).1), fun k e => ⟨(h.le k e).1, (h.le k e).2.1, Nat.lt_of_lt_of_le (h.le k e).2.2 hk.size⟩⟩
theorem BrR.grow {W0 wy W' : World} {ov ov' bv : Value} {BL : List (Nat × Nat)} (h : BrR W0 wy ov bv BL) (hg : wy.grownBy W' ov.ownBlock) (ho : ∀ k, ov'.ownBlock = some k → ov.ownBlock = some k ∨ wy.heap.size ≤ k) : BrR W0 W' ov' bv BL :=
  ⟨h.reads.keeps (keeps_grown hg) (fun k e e2 => (h.le k e).2.1 e2), fun k e => ⟨(h.le k e).1, fun e2 => by
    rcases ho k e2 with h1 | h1
    · exact (h.le k e).2.1 h1
    · have := (h.le k e).2.2; omega, Nat.lt_of_lt_of_le (h.le k e).2.2 (keeps_grown hg).size⟩⟩
/-- What follow leaves. -/
def FollowPost (z : Nat) (W : World) (lb fb bw : Nat) (rb : Nat → Nat) (P K : Nat) (v : Value) (In0 : Nat → Nat → Bool) (rs : List Rl) (e : Ending) (W' : World) : Prop :=
  ∃ u In tot out, e = .returned u ∧ Hid (LvMem z W' lb fb bw rb P K v In tot rs ∧ FlI P K rs In0 In [] out ∧ ReadsP W' u (sortP out) ∧ (∀ k, u.ownBlock = some k → W.heap.size ≤ k) ∧ Keeps (famFp fb bw rb (P * K)) W W')
theorem first_row (W : World) (r : Rl) : TailRow (W.alloc (.cells #[.int .i64 r.kind, .int .i64 r.head, .int .i64 r.who, .int .i64 r.a, .int .i64 r.b, .int .i64 r.via] 29)) 29 6 (.slice (some ⟨W.heap.size, 0, none⟩) 1 1) [r].length (rlCells [r]) := by
  refine ⟨rfl, .inr ⟨W.heap.size, 0, 1, _, rfl, (MapKept.heap_alloc W _).1, Nat.le_refl _, by unfold maxLen; omega, by simp, fun j u hu => ?_⟩⟩
  rw [Nat.zero_add]
  have hj : j < 6 := by
    rcases Nat.lt_or_ge j (rlCells [r]).length with h | h
    · exact h
    · rw [List.getElem?_eq_none h] at hu; cases hu
  match j, hj with
  | 0, _ => exact hu
  | 1, _ => exact hu
  | 2, _ => exact hu
  | 3, _ => exact hu
  | 4, _ => exact hu
  | 5, _ => exact hu
theorem brings_len {P K : Nat} (hP : P ≤ 64) (r : Rl) (In : Nat → Nat → Bool) : (bringsL P K r In).length ≤ 4096 := by
  unfold bringsL
  split
  · simp
  split
  · rw [listTo_len]; exact Nat.le_trans (cnt_le _ _) (by omega)
  split
  · refine Nat.le_trans (List.length_filter_le _ _) ?_
    rw [listTo_len]; exact Nat.le_trans (cnt_le _ _) (by omega)
  · have h1 := flat_len (P := P) (fun x => In (x * K + r.via.toNat)) (listTo (In r.a.toNat) P)
    have h2 : (listTo (In r.a.toNat) P).length ≤ 64 := by rw [listTo_len]; exact Nat.le_trans (cnt_le _ _) hP
    exact Nat.le_trans h1 (Nat.le_trans (Nat.mul_le_mul h2 hP) (by decide))
set_option maxRecDepth 100000
set_option maxHeartbeats 6400000
theorem follow_spec {z : Nat} {W : World} {lb fb bw : Nat} {rb : Nat → Nat} {P K : Nat} {v : Value} {In0 : Nat → Nat → Bool} {tot0 : Nat} {rs : List Rl} (h : LvMem z W lb fb bw rb P K v In0 tot0 rs) (hz : 0 < z) (hT : TabIn W) {r : Rl} (hfl : FlI P K rs In0 In0 [r] []) :
    Calls Tryd.prog 26 #[.pointer (some ⟨lb, 0, none⟩), .agg #[.int .i64 r.kind, .int .i64 r.head, .int .i64 r.who, .int .i64 r.a, .int .i64 r.b, .int .i64 r.via]] W (FollowPost z W lb fb bw rb P K v In0 rs) := by
  obtain ⟨i0, hi0, hz0, hz1, hz2⟩ := info_parts pairInfo
  obtain ⟨i1, hi1, hy0, hy1, hy2⟩ := info_parts rlInfo
  obtain ⟨av, cv, rfl, hcv, _⟩ := h.row.rules
  have HR := Lib.hid h.right
  have hlb := lt_of_heap h.obj
  obtain ⟨n, hn⟩ : ∃ n, rs.length = n := ⟨_, rfl⟩
  have hn1000 : n ≤ 1000 := by rw [← hn]; exact h.len
  have hP := h.hP
  have hK := h.hK
  have hPK : P * (P * K) ≤ 262144 := Nat.le_trans (Nat.mul_le_mul hP (Nat.mul_le_mul hP hK)) (by decide)
  have HTAB : Hid (∀ W', Keeps (famFp fb bw rb (P * K)) W W' → TabIn W') := fun W' hk => hT.keeps hk (fun hf => by have := h.zf _ hf; omega)
  have HNN := Lib.hid hn
  obtain ⟨w1, hw1⟩ : ∃ w1, (W.alloc (.cells #[.int .i64 r.kind, .int .i64 r.head, .int .i64 r.who, .int .i64 r.a, .int .i64 r.b, .int .i64 r.via] 29)) = w1 := ⟨_, rfl⟩
  have hal := (MapKept.heap_alloc W (.cells #[.int .i64 r.kind, .int .i64 r.head, .int .i64 r.who, .int .i64 r.a, .int .i64 r.b, .int .i64 r.via] 29)).1
  have k0 : Keeps (fun _ => False) W (W.alloc (.cells #[.int .i64 r.kind, .int .i64 r.head, .int .i64 r.who, .int .i64 r.a, .int .i64 r.b, .int .i64 r.via] 29)) := (Keeps.refl _ _).alloc _
  rw [hw1] at hal k0
  have c0 : w1.cell? ⟨W.heap.size, 0, none⟩ = some (.int .i64 r.kind) := by rw [cell_of_heap hal]; rfl
  have c1 : w1.cell? ⟨W.heap.size, 1, none⟩ = some (.int .i64 r.head) := by rw [cell_of_heap hal]; rfl
  have c2 : w1.cell? ⟨W.heap.size, 2, none⟩ = some (.int .i64 r.who) := by rw [cell_of_heap hal]; rfl
  have c3 : w1.cell? ⟨W.heap.size, 3, none⟩ = some (.int .i64 r.a) := by rw [cell_of_heap hal]; rfl
  have c4 : w1.cell? ⟨W.heap.size, 4, none⟩ = some (.int .i64 r.b) := by rw [cell_of_heap hal]; rfl
  have c5 : w1.cell? ⟨W.heap.size, 5, none⟩ = some (.int .i64 r.via) := by rw [cell_of_heap hal]; rfl
  have k1 : Keeps (fun _ => False) w1 (w1.alloc (.cells #[.int .i64 r.kind, .int .i64 r.head, .int .i64 r.who, .int .i64 r.a, .int .i64 r.b, .int .i64 r.via] 29)) := (Keeps.refl _ _).alloc _
  have HS0 : Hid (FoS z W (w1.alloc (.cells #[.int .i64 r.kind, .int .i64 r.head, .int .i64 r.who, .int .i64 r.a, .int .i64 r.b, .int .i64 r.via] 29)) lb fb bw rb P K (.slice av rs.length cv) In0 tot0 rs (.slice none 0 0) [] (.slice (some ⟨w1.heap.size, 0, none⟩) 1 1) [r]) :=
    ⟨h.quiet (k0.trans k1), TailRow.nil _ _ _, fun k e => (by cases e), first_row w1 r, fun k e => (by simp only [Value.ownBlock, Option.some.injEq] at e; subst e; exact k0.size), (k0.trans k1).mono (fun _ _ x => x.elim), h.lt⟩
  obtain ⟨M0, hM0⟩ : ∃ M0, flM P K n In0 [r] = M0 := ⟨_, rfl⟩
  have hM : M0 ≤ 300000000 := by
    rw [← hM0]
    unfold flM
    have h1 : (P * (P * K) - totIn P (P * K) In0) * (n + 1) ≤ 262144 * 1001 := Nat.mul_le_mul (by omega) (by omega)
    simp only [List.length_singleton]
    omega
  have HF0 : Hid (FlI P K rs In0 In0 [r] [] ∧ ([] : List (Nat × Nat)).length ≤ totIn P (P * K) In0 ∧ flM P K n In0 [r] ≤ M0) := ⟨hfl, Nat.zero_le _, by rw [hM0]; exact Nat.le_refl _⟩
  have HW := Lib.hid (Keeps.refl (famFp fb bw rb (P * K)) W)
  have HFIN : Hid (∀ wy In tot out ov tv, FoS z W wy lb fb bw rb P K (.slice av rs.length cv) In tot rs ov out tv [] → FlI P K rs In0 In [] out → ∀ w', (Keeps (fun k => ov.ownBlock = some k) wy w' ∧ ReadsP w' ov (sortP out)) → FollowPost z W lb fb bw rb P K (.slice av rs.length cv) In0 rs (.returned ov) w') := fun wy In tot out ov tv hS hF w' hw =>
    ⟨ov, In, tot, out, rfl, hS.lv.keeps hw.1 (fun k hf e => by have := hS.ob k e; have := hS.lt0 k hf; omega), hF, hw.2, hS.ob, hS.kp.trans_new hw.1 (fun k hk e => by have := hS.ob k e; omega)⟩
  rw [hn] at HS0 HFIN hcv ⊢
  clear h hT hfl hal k0 k1 hM0
  go_enter Tryd.func26, Tryd.ntmps26
  go_upto_region 1 with fail
  (try simp only [hw1])
  clear hw1
  go_wp2_with fail
  go_loopg [4, 5] (flM P K n In0 [r]) (fun g ov tv wy => ∃ In tot todo out, g = flM P K n In todo ∧ Hid (FoS z W wy lb fb bw rb P K (.slice av n cv) In tot rs ov out tv todo) ∧ Hid (FlI P K rs In0 In todo out ∧ out.length ≤ totIn P (P * K) In ∧ flM P K n In todo ≤ M0))
  case atStart => exact ⟨In0, tot0, [r], [], rfl, HS0, HF0⟩
  case round =>
    clear HS0 HF0 c0 c1 c2 c3 c4 c5
    obtain ⟨In, tot, todo, out, rfl, HS, HF⟩ := hrel
    cases todo with
    | nil =>
      obtain ⟨a5, e5, rfl, _, _, _, _⟩ := TailRow.form HS.out.td
      have hol : out.length ≤ 1000000 := by have := HF.out.2.1; have := totIn_le P (P * K) In; omega
      have HSO := Lib.hid (sorted_spec HS.out.own hol)
      have HE := Lib.hid (HFIN.out _ _ _ _ _ _ HS.out HF.out.1)
      clear HS HF HFIN HTAB HR hol
      go_wp2_with (go_at_call 42; refine HSO.out.mono ?_; rintro e w' ⟨rfl, hw'⟩)
      have HP := Lib.hid (HE.out _ hw'.out)
      clear HSO HE hw'
      go_ret
      exact HP.out
    | cons next rest =>
      clear HFIN
      obtain ⟨hl5, ⟨hv5, hn5⟩ | ⟨g5, o5, cap5, cur5, rfl, hh5, hle5, hmx5, hsz5, ht5⟩⟩ := HS.out.td
      · cases hn5
      have hcell : ∀ (t : Nat) (u : Value), next.cells[t]? = some u → wr.cell? ⟨g5, o5 + t, none⟩ = some u := fun t u hu => by
        rw [cell_of_heap hh5]
        refine ht5 t u ?_
        have ht : t < 6 := by
          rcases Nat.lt_or_ge t next.cells.length with h | h
          · exact h
          · rw [List.getElem?_eq_none h] at hu; cases hu
        show (next.cells ++ rlCells rest)[t]? = some u
        rw [List.getElem?_append_left (by exact ht)]
        exact hu
      have d0 := hcell 0 _ rfl
      have d1 := hcell 1 _ rfl
      have d2 := hcell 2 _ rfl
      have d3 := hcell 3 _ rfl
      have d4 := hcell 4 _ rfl
      have d5 := hcell 5 _ rfl
      rw [Nat.add_zero] at d0
      have hb5 : TailRow wr 29 6 (.slice (some ⟨g5, if cap5 = 1 then o5 else o5 + 6, none⟩) rest.length (cap5 - 1)) rest.length (rlCells rest) := TailRow.behind (x := next.cells) (n := rest.length) HS.out.td rfl
      have hg5 : W.heap.size ≤ g5 := HS.out.tb g5 rfl
      obtain ⟨ao5, hao5⟩ : ∃ ao5, (if cap5 = 1 then some (⟨g5, o5, none⟩ : Addr) else some ⟨g5, o5 + 6, none⟩) = ao5 := ⟨_, rfl⟩
      have eao : (some (⟨g5, if cap5 = 1 then o5 else o5 + 6, none⟩ : Addr)) = ao5 := by rw [← hao5]; split <;> rfl
      rw [eao] at hb5
      have hbk : ∀ k, (Value.slice ao5 rest.length (cap5 - 1)).ownBlock = some k → k = g5 := fun k e => by
        rw [← eao] at e
        simp only [Value.ownBlock, Option.some.injEq] at e
        exact e.symm
      obtain ⟨w3, hw3⟩ : ∃ w3, (wr.alloc (.cells #[.int .i64 next.kind, .int .i64 next.head, .int .i64 next.who, .int .i64 next.a, .int .i64 next.b, .int .i64 next.via] 29)) = w3 := ⟨_, rfl⟩
      have hal3 := (MapKept.heap_alloc wr (.cells #[.int .i64 next.kind, .int .i64 next.head, .int .i64 next.who, .int .i64 next.a, .int .i64 next.b, .int .i64 next.via] 29)).1
      have k3 : Keeps (fun _ => False) wr (wr.alloc (.cells #[.int .i64 next.kind, .int .i64 next.head, .int .i64 next.who, .int .i64 next.a, .int .i64 next.b, .int .i64 next.via] 29)) := (Keeps.refl _ _).alloc _
      rw [hw3] at hal3 k3
      have hS3 : FoS z W w3 lb fb bw rb P K (.slice av n cv) In tot rs u4 out (.slice ao5 rest.length (cap5 - 1)) rest := by
        have hq := HS.out.quiet k3
        exact ⟨hq.lv, hq.own, hq.ob, TailRow.keeps hb5 k3 (fun _ _ x => x), fun k e => by have := hbk k e; omega, hq.kp, hq.lt0⟩
      have hN3 : Nx W w3 u4 (.slice ao5 rest.length (cap5 - 1)) wr.heap.size next := by
        refine ⟨hal3, HS.out.size, fun e => ?_, fun e => ?_⟩
        · obtain ⟨_, hc⟩ := TailRow.lt HS.out.own _ e
          have := lt_of_heap hc
          omega
        · have := hbk _ e
          have := lt_of_heap hh5
          omega
      have HFL := Lib.hid HF.out
      have hI1 : (0 : Int) < (rest.length : Int) + 1 := by omega
      have hn1 : next ∈ rs := HF.out.1.tsub next (by simp)
      have hR1 := HR.out next hn1
      have hhd0 := (right_iff hR1).1
      obtain ⟨hd, hhd⟩ : ∃ hd : Nat, next.head = hd := ⟨next.head.toNat, by omega⟩
      have hhdl : hd < P * K := by omega
      have hhdn : next.head.toNat = hd := by omega
      have e0 : w3.cell? ⟨wr.heap.size, 0, none⟩ = some (.int .i64 next.kind) := by rw [cell_of_heap hal3]; rfl
      have e1 : w3.cell? ⟨wr.heap.size, 1, none⟩ = some (.int .i64 next.head) := by rw [cell_of_heap hal3]; rfl
      have e2 : w3.cell? ⟨wr.heap.size, 2, none⟩ = some (.int .i64 next.who) := by rw [cell_of_heap hal3]; rfl
      have e3 : w3.cell? ⟨wr.heap.size, 3, none⟩ = some (.int .i64 next.a) := by rw [cell_of_heap hal3]; rfl
      have e4 : w3.cell? ⟨wr.heap.size, 4, none⟩ = some (.int .i64 next.b) := by rw [cell_of_heap hal3]; rfl
      have e5 : w3.cell? ⟨wr.heap.size, 5, none⟩ = some (.int .i64 next.via) := by rw [cell_of_heap hal3]; rfl
      have HBR0 := brings_spec hS3.lv (HTAB.out _ hS3.kp) hR1
      obtain ⟨B, hB⟩ : ∃ B, bringsL P K next In = B := ⟨_, rfl⟩
      have hBl : B.length ≤ 4096 := by rw [← hB]; exact brings_len hP next In
      have hBP : ∀ c ∈ B, c < P := fun c hc => ((brings_iff hR1 c).1 (by rw [hB]; exact hc)).1
      rw [hhdn, hB] at HBR0
      have HBR := Lib.hid HBR0
      have HBP := Lib.hid hBP
      have HBE := Lib.hid hB
      have HHD := Lib.hid hhdn
      obtain ⟨nb, hnb⟩ : ∃ nb, wr.heap.size = nb := ⟨_, rfl⟩
      have HH1 := Lib.hid (And.intro hn1 hR1)
      obtain ⟨rl, hrl⟩ : ∃ rl, rest.length = rl := ⟨_, rfl⟩
      have HRL := Lib.hid hrl
      obtain ⟨tc, htc⟩ : ∃ tc, cap5 - 1 = tc := ⟨_, rfl⟩
      have HS3 := Lib.hid hS3
      have HN3 := Lib.hid hN3
      simp only [List.length_cons] at hle5 ⊢
      rw [hrl] at hI1 HS3 HN3 hle5 ⊢
      rw [hnb] at HN3 e0 e1 e2 e3 e4 e5
      rw [htc] at HS3 HN3
      clear HS HF hcell hb5 hal3 k3 hh5 ht5 hl5 hn1 hR1 hrl hS3 hN3 HBR0 hBP hB hhd0 hbk eao hmx5 hsz5 hhd
      go_upto_region 6 with fail
      (try simp only [hao5])
      (try simp only [htc])
      clear hao5 htc hw3 hnb d0 d1 d2 d3 d4 d5
      go_wp2_with (go_at_call 39; refine HBR.out.mono ?_; rintro e w4 ⟨bv, rfl, hb⟩; obtain ⟨ab, cb, rfl, hcb, _⟩ := hb.out.2.reads)
      rw [prs_len] at hcb
      have HS4 : Hid (FoS z W w4 lb fb bw rb P K (.slice av n cv) In tot rs u4 out (.slice ao5 rl tc) rest) := HS3.out.quiet hb.out.1
      have HN4 : Hid (Nx W w4 u4 (.slice ao5 rl tc) nb next) := HN3.out.quiet hb.out.1
      have HB4 : Hid (BrR W w4 u4 (.slice ab (prs hd B).length cb) (prs hd B)) := by
        refine ⟨hb.out.2.reads, fun k e => ?_⟩
        have h1 := own_block hb.out.2 k e
        have h2 := own_lt hb.out.2 k e
        have h3 := HS3.out.size
        refine ⟨by omega, fun e2 => ?_, h2⟩
        obtain ⟨_, hc⟩ := TailRow.lt HS3.out.own _ e2
        have := lt_of_heap hc
        omega
      clear HBR hb HS3 HN3 e0 e1 e2 e3 e4 e5
      obtain ⟨bn, hbn⟩ : ∃ bn, (prs hd B).length = bn := ⟨_, rfl⟩
      have HBN : Hid (B.length = bn) := by rw [← hbn, prs_len]; rfl
      have hbn4 : bn ≤ 4096 := by rw [← HBN.out]; exact hBl
      rw [hbn] at HB4 ⊢
      clear hbn hcb hBl
      go_wp2_with fail
      go_loopg [4, 7, 26] bn (fun g ov mv t wy => ∃ (j : Nat) (In2 : Nat → Nat → Bool) (news : List Nat) (tot2 : Nat), j ≤ bn ∧ g = bn - j ∧ t = .int .i64 j ∧ mv = .bool (!news.isEmpty) ∧ Hid ((In2, news) = adds (P * K) P hd (In, []) (B.take j)) ∧ Hid (FoS z W wy lb fb bw rb P K (.slice av n cv) In2 tot2 rs ov (out ++ prs hd news) (.slice ao5 rl tc) rest ∧ Nx W wy ov (.slice ao5 rl tc) nb next ∧ BrR W wy ov (.slice ab bn cb) (prs hd B)))
      case atStart => exact ⟨0, In, [], tot, Nat.zero_le _, rfl, rfl, rfl, rfl, by rw [show prs hd [] = [] from rfl, List.append_nil]; exact HS4.out, HN4.out, HB4.out⟩
      case round =>
        clear HS4 HN4 HB4
        obtain ⟨j, In2, news, tot2, hj, rfl, rfl, rfl, HA, HI⟩ := hrel
        by_cases hlt : j < bn
        · have hjI : (j : Int) < (bn : Int) := by omega
          have hwj : IntKind.i64.wrap ((j : Int) + 1) = (j : Int) + 1 := IntWalk.i64_in _ (by omega)
          obtain ⟨c, hc⟩ : ∃ c, B[j]? = some c := ⟨_, List.getElem?_eq_getElem (by rw [HBN.out]; exact hlt)⟩
          have hcP := HBP.out c (List.mem_of_getElem? hc)
          have hpc : (prs hd B)[j]? = some (hd, c) := by unfold prs; rw [List.getElem?_map, hc]; rfl
          obtain ⟨ab', cb', he, _, hrb⟩ := HI.out.2.2.reads
          simp only [Value.slice.injEq] at he
          obtain ⟨rfl, -, rfl⟩ := he
          obtain ⟨g6, o6, rfl, hg6, hcc⟩ := hrb (by rw [prs_len, HBN.out]; omega)
          obtain ⟨q0, q1⟩ := hcc j _ hpc
          simp only [] at q0 q1
          have HNXT := Lib.hid (adds_take_succ (N := P * K) (P := P) (h := hd) (s := (In, [])) hc)
          obtain ⟨w5, hw5⟩ : ∃ w5, (wr.alloc (.cells #[.int .i64 (hd : Int), .int .i64 (c : Int)] 22)) = w5 := ⟨_, rfl⟩
          have hal5 := (MapKept.heap_alloc wr (.cells #[.int .i64 (hd : Int), .int .i64 (c : Int)] 22)).1
          have k5 : Keeps (fun _ => False) wr (wr.alloc (.cells #[.int .i64 (hd : Int), .int .i64 (c : Int)] 22)) := (Keeps.refl _ _).alloc _
          rw [hw5] at hal5 k5
          have hpb : W.heap.size ≤ wr.heap.size := HI.out.1.size
          have kd : Keeps (fun _ => False) w5 w5.drew := (Keeps.refl _ _).drew
          have hal5d := (kd.block _ (lt_of_heap hal5) (fun x => x)).trans hal5
          have HS5 := Lib.hid ((HI.out.1.quiet k5).quiet kd)
          have HN5 := Lib.hid ((HI.out.2.1.quiet k5).quiet kd)
          have HB5 := Lib.hid ((HI.out.2.2.keeps k5 (fun _ _ x => x)).keeps kd (fun _ _ x => x))
          obtain ⟨pb, hpbe⟩ : ∃ pb, wr.heap.size = pb := ⟨_, rfl⟩
          rw [hpbe] at hal5d hpb
          have HPB := Lib.hid hal5d
          have z0 := HS5.out.lv.cells.1
          have z1 : w5.drew.cell? ⟨pb, 0, none⟩ = some (.int .i64 (hd : Int)) := by rw [cell_of_heap hal5d]; rfl
          have z2 : w5.drew.cell? ⟨pb, 1, none⟩ = some (.int .i64 (c : Int)) := by rw [cell_of_heap hal5d]; rfl
          have HFA := Lib.hid (fadd_spec HS5.out.lv.fam (Nat.le_trans HS5.out.lv.le (by decide)) (hd : Int) (c : Int) (by omega) (by omega))
          have H0 : (fun w' : World => w'.cell? ⟨lb, 0, none⟩ = some (.pointer (some ⟨fb, 0, none⟩)) ∧ w'.cell? ⟨pb, 0, none⟩ = some (.int .i64 (hd : Int)) ∧ w'.cell? ⟨pb, 1, none⟩ = some (.int .i64 (c : Int))) w5.drew := ⟨z0, z1, z2⟩
          have HADD : Hid (∀ w', FamMem w' fb bw rb (P * K) P (addIn (P * K) P In2 hd c) (addTot (P * K) P In2 hd c tot2) → Keeps (famFp fb bw rb (P * K)) w5.drew w' → FoS z W w' lb fb bw rb P K (.slice av n cv) (addIn (P * K) P In2 hd c) (addTot (P * K) P In2 hd c tot2) rs u4 (out ++ prs hd news) (.slice ao5 rl tc) rest ∧ Nx W w' u4 (.slice ao5 rl tc) nb next ∧ BrR W w' u4 (.slice (some ⟨g6, o6, none⟩) bn cb) (prs hd B) ∧ w'.heap[pb]? = some (.cells #[.int .i64 (hd : Int), .int .i64 (c : Int)] 22 (0, 0)) ∧ w'.cell? ⟨lb, 0, none⟩ = some (.pointer (some ⟨fb, 0, none⟩))) := fun w' hf hk => by
            have hlt0 : ∀ k, famFp fb bw rb (P * K) k → k < W.heap.size := fun k hk => HS5.out.lt0 k (.inr (.inl hk))
            have hS := HS5.out.add hhdl hcP hf hk
            exact ⟨hS, HN5.out.keeps hk (fun e => by have := hlt0 _ e; have := HN5.out.le; omega), HB5.out.keeps hk (fun k h1 h2 => by have := hlt0 _ h2; omega), (hk.block _ (lt_of_heap HPB.out) (fun e => by have := hlt0 _ e; omega)).trans HPB.out, hS.lv.cells.1⟩
          have hbb := addB_nat (N := P * K) (P := P) (In := In2) hhdl hcP
          obtain ⟨bl, hbl⟩ : ∃ bl, addB (P * K) P In2 hd c = bl := ⟨_, rfl⟩
          have HBL := Lib.hid hbl
          have hnl : out.length + news.length ≤ 300000 := by
            have h1 := HFL.out.2.1
            have hA2 := adds_spec (N := P * K) (P := P) In hhdl (B.take j) (fun x hx => HBP.out x (List.mem_of_mem_take hx))
            rw [← HA.out] at hA2
            have h2 := hA2.tot
            simp only [] at h2
            have h3 := totIn_le P (P * K) In2
            omega
          clear hc hpc hrb hcc HI hal5 k5 hal5d kd
          go_upto_region 9 with fail
          (try simp only [hw5])
          (try simp only [hpbe])
          clear hw5 hpbe q0 q1 z0 z1 z2
          refine wp_region_noPanic ?_
          refine wp_region_held_drew (S := (fun w' : World => w'.cell? ⟨lb, 0, none⟩ = some (.pointer (some ⟨fb, 0, none⟩)) ∧ w'.cell? ⟨pb, 0, none⟩ = some (.int .i64 (hd : Int)) ∧ w'.cell? ⟨pb, 1, none⟩ = some (.int .i64 (c : Int)))) (by kernel_rfl) H0 (fun hHeld => ?_)
          refine wpAnyH_take_at (i := 0) (v := ?v0) rfl (by kernel_rfl) (by kernel_rfl) (by kernel_rfl) (fun _ _ _ h => h) (Or.inl ⟨by rfl, ?y0⟩) hHeld ?r0
          case y0 => (intro w hSw; (try dsimp only at hSw); go_simp; first | done | with_reducible rfl)
          (try simp only [Act.put, List.setIfInBounds_toArray, List.set_cons_zero, List.set_cons_succ])
          refine wpAnyH_take_at (i := 1) (v := ?v1) rfl (by kernel_rfl) (by kernel_rfl) (by kernel_rfl) (fun _ _ _ h => h) (Or.inl ⟨by rfl, ?y1⟩) hHeld ?r1
          case y1 => (intro w hSw; (try dsimp only at hSw); go_simp; first | done | with_reducible rfl)
          (try simp only [Act.put, List.setIfInBounds_toArray, List.set_cons_zero, List.set_cons_succ])
          refine wpAnyH_take_at (i := 2) (v := ?v2) rfl (by kernel_rfl) (by kernel_rfl) (by kernel_rfl) (fun _ _ _ h => h) (Or.inl ⟨by rfl, ?y2⟩) hHeld ?r2
          case y2 => (intro w hSw; (try dsimp only at hSw); go_simp; first | done | with_reducible rfl)
          (try simp only [Act.put, List.setIfInBounds_toArray, List.set_cons_zero, List.set_cons_succ])
          refine wpAnyH_take_at (i := 3) (v := ?v3) rfl (by kernel_rfl) (by kernel_rfl) (by kernel_rfl) (fun _ _ _ h => h) (Or.inl ⟨by rfl, ?y3⟩) hHeld ?r3
          case y3 => (intro w hSw; (try dsimp only at hSw); go_simp; first | done | with_reducible rfl)
          (try simp only [Act.put, List.setIfInBounds_toArray, List.set_cons_zero, List.set_cons_succ])
          refine wpAnyH_take_at (i := 4) (v := ?v4) rfl (by kernel_rfl) (by kernel_rfl) (by kernel_rfl) (fun _ _ _ h => h) (Or.inl ⟨by rfl, ?y4⟩) hHeld ?r4
          case y4 => (intro w hSw; (try dsimp only at hSw); go_simp; first | done | with_reducible rfl)
          (try simp only [Act.put, List.setIfInBounds_toArray, List.set_cons_zero, List.set_cons_succ])
          refine wpAnyH_take_at (i := 5) (v := ?v5) rfl (by kernel_rfl) (by kernel_rfl) (by kernel_rfl) (fun _ _ _ h => h) (Or.inl ⟨by rfl, ?y5⟩) hHeld ?r5
          case y5 => (intro w hSw; (try dsimp only at hSw); go_simp; first | done | with_reducible rfl)
          (try simp only [Act.put, List.setIfInBounds_toArray, List.set_cons_zero, List.set_cons_succ])
          refine wpAnyH_take_at (i := 6) (v := ?v6) rfl (by kernel_rfl) (by kernel_rfl) (by kernel_rfl) (fun _ _ _ h => h) (Or.inl ⟨by rfl, ?y6⟩) hHeld ?r6
          case y6 => (intro w hSw; (try dsimp only at hSw); go_simp; first | done | with_reducible rfl)
          (try simp only [Act.put, List.setIfInBounds_toArray, List.set_cons_zero, List.set_cons_succ])
          refine wpAnyH_take_at (i := 7) (v := ?v7) rfl (by kernel_rfl) (by kernel_rfl) (by kernel_rfl) (fun _ _ _ h => h) (Or.inl ⟨by rfl, ?y7⟩) hHeld ?r7
          case y7 => (intro w hSw; (try dsimp only at hSw); go_simp; first | done | with_reducible rfl)
          (try simp only [Act.put, List.setIfInBounds_toArray, List.set_cons_zero, List.set_cons_succ])
          refine wpAnyH_one (i := 8) (by kernel_rfl) rfl (fun KK hK => ?_)
          go_simp
          refine HFA.out.mono ?_
          rintro e wA ⟨rfl, hfA0⟩
          have hfA := Lib.hid hfA0
          clear hfA0
          rw [hbl]
          go_simp
          refine hK.out _ _ ?s8 (fun hHeld => ?_)
          case s8 => exact ⟨(HADD.out _ hfA.out.1 hfA.out.2).2.2.2.2, by rw [cell_of_heap (HADD.out _ hfA.out.1 hfA.out.2).2.2.2.1]; rfl, by rw [cell_of_heap (HADD.out _ hfA.out.1 hfA.out.2).2.2.2.1]; rfl⟩
          clear hK KK
          (try simp only [Act.put, List.setIfInBounds_toArray, List.set_cons_zero, List.set_cons_succ])
          refine wpAnyH_done (by kernel_rfl) ?_ _
          refine NoPanic.normal ?_
          have HS6 := Lib.hid (HADD.out _ hfA.out.1 hfA.out.2)
          clear hHeld HFA H0 HADD HS5 HN5 HB5 HPB hfA
          cases bl with
          | false =>
            have hin : addIn (P * K) P In2 hd c = In2 := by unfold addIn; rw [HBL.out, if_neg (by decide)]
            have HN : Hid ((In2, news) = adds (P * K) P hd (In, []) (B.take (j + 1))) := by
              show _ = _
              rw [HNXT.out, ← HA.out]
              unfold addStep
              rw [HBL.out, if_neg (by decide)]
            have HN2 : Hid (FoS z W wA lb fb bw rb P K (.slice av n cv) In2 (addTot (P * K) P In2 hd c tot2) rs u4 (out ++ prs hd news) (.slice ao5 rl tc) rest ∧ Nx W wA u4 (.slice ao5 rl tc) nb next ∧ BrR W wA u4 (.slice (some ⟨g6, o6, none⟩) bn cb) (prs hd B)) := by
              obtain ⟨h1, h2, h3, _⟩ := HS6.out
              rw [hin] at h1
              exact ⟨h1, h2, h3⟩
            clear HS6 HNXT HA hin HBL hbl hbb
            go_wp2_with fail
            go_roundg (bn - (j + 1))
            case measure => omega
            case rel => exact ⟨j + 1, In2, news, _, by omega, rfl, by go_num, rfl, HN, HN2⟩
          | true =>
            have HN : Hid ((addIn (P * K) P In2 hd c, news ++ [c]) = adds (P * K) P hd (In, []) (B.take (j + 1))) := by
              show _ = _
              rw [HNXT.out, ← HA.out]
              unfold addStep
              rw [HBL.out, if_pos rfl]
            have y0 : wA.cell? ⟨pb, 0, none⟩ = some (.int .i64 (hd : Int)) := by rw [cell_of_heap HS6.out.2.2.2.1]; rfl
            have y1 : wA.cell? ⟨pb, 1, none⟩ = some (.int .i64 (c : Int)) := by rw [cell_of_heap HS6.out.2.2.2.1]; rfl
            have k7 : Keeps (fun _ => False) wA (wA.alloc (.cells #[.int .i64 (hd : Int), .int .i64 (c : Int)] 22)) := (Keeps.refl _ _).alloc _
            have HS7 := Lib.hid (HS6.out.1.quiet k7)
            have HN7 := Lib.hid (HS6.out.2.1.quiet k7)
            have HB7 := Lib.hid (HS6.out.2.2.1.keeps k7 (fun _ _ x => x))
            have holl : (out ++ prs hd news).length ≤ 300000 := by rw [List.length_append, prs_len]; exact hnl
            obtain ⟨ol, hol⟩ : ∃ ol, (out ++ prs hd news).length = ol := ⟨_, rfl⟩
            have hTD := HS7.out.own
            unfold TlP at hTD
            rw [hol] at hTD holl
            have HTD := Lib.hid hTD
            have HOL := Lib.hid hol
            clear hTD hol
            clear HS6 HNXT HA HBL hbl hbb k7
            go_wp2_with (at_builtin; refine wpList_append_tail _ rfl _ _ 32 rfl 22 i0 _ 2 16 Tryd.underlying32 hi0 hz0 hz1 hz2 rfl (by decide) _ _ _ rfl HTD.out ⟨wA.heap.size, 0, none⟩ 1 1 [.int .i64 (hd : Int), .int .i64 (c : Int)] rfl rfl (cells_new wA _ _) (by intro u hu; simp only [List.mem_cons, List.not_mem_nil, or_false] at hu; rcases hu with rfl | rfl <;> rfl) (by decide) (by unfold maxLen; omega) (by omega) ?_)
            intro ao2 cap2 w8 hown2 hgrow horig
            have HN2 : Hid (FoS z W w8 lb fb bw rb P K (.slice av n cv) (addIn (P * K) P In2 hd c) (addTot (P * K) P In2 hd c tot2) rs (.slice ao2 (ol + 1) cap2) (out ++ prs hd (news ++ [c])) (.slice ao5 rl tc) rest ∧ Nx W w8 (.slice ao2 (ol + 1) cap2) (.slice ao5 rl tc) nb next ∧ BrR W w8 (.slice ao2 (ol + 1) cap2) (.slice (some ⟨g6, o6, none⟩) bn cb) (prs hd B)) := by
              have horig2 : ∀ k, (Value.slice ao2 (ol + 1) cap2).ownBlock = some k → u4.ownBlock = some k ∨ (wA.alloc (.cells #[.int .i64 (hd : Int), .int .i64 (c : Int)] 22)).heap.size ≤ k := fun k e => by have := horig k e; simpa using this
              refine ⟨?_, HN7.out.grow hgrow horig2, HB7.out.grow hgrow horig2⟩
              rw [prs_snoc, ← List.append_assoc]
              refine HS7.out.grow (HS7.out.size) ?_ hgrow horig2 HS7.out.apart
              show TailRow _ _ _ _ (out ++ prs hd news ++ [(hd, c)]).length (pcs (out ++ prs hd news ++ [(hd, c)]))
              rw [pcs_append, List.length_append, HOL.out]
              exact hown2
            have hne : (news ++ [c]).isEmpty = false := by simp
            clear HS7 HN7 HB7 HTD HOL hown2 hgrow horig y0 y1
            go_wp2_with fail
            go_roundg (bn - (j + 1))
            case measure => omega
            case rel => exact ⟨j + 1, _, news ++ [c], _, by omega, rfl, by go_num, by rw [hne]; rfl, HN, HN2⟩
        · have hjE : j = bn := by omega
          have hjI : ¬ (j : Int) < (bn : Int) := by omega
          have hA := HA.out
          rw [List.take_of_length_le (by rw [HBN.out]; omega)] at hA
          have hstep := HFL.out.1.step HR.out
          have hdown := HFL.out.1.down HR.out
          rw [HHD.out, HBE.out, ← hA] at hstep hdown
          simp only [] at hstep hdown
          rw [HNN.out] at hdown
          have hA2 := adds_spec (N := P * K) (P := P) In hhdl B HBP.out
          rw [← hA] at hA2
          have htot := hA2.tot
          simp only [] at htot
          have HOUT : Hid ((out ++ prs hd news).length ≤ totIn P (P * K) In2) := by
            show _ ≤ _
            rw [List.length_append, prs_len, htot]
            have := HFL.out.2.1
            omega
          have HST : Hid (FlI P K rs In0 In2 (if news = [] then rest else pick K hd rest rs) (out ++ prs hd news)) := hstep
          have HDN := Lib.hid hdown
          have HSI := Lib.hid (And.intro HI.out.1 HI.out.2.1)
          have cv1 := HI.out.1.lv.cells.2.1
          have hlbr := lt_of_heap HI.out.1.lv.obj
          clear HI HA hA hA2 htot hstep hdown HBP HBE HBN hjE hbn4
          by_cases hzn : news = []
          · subst hzn
            rw [if_pos rfl] at HST HDN
            go_wp2_with fail
            go_loopg [5, 49] n (fun g tv t wy => ∃ (i : Nat), i ≤ n ∧ g = n - i ∧ t = .int .i64 i ∧ tv = .slice ao5 rl tc ∧ Hid (FoS z W wy lb fb bw rb P K (.slice av n cv) In2 tot2 rs u4 (out ++ prs hd []) (.slice ao5 rl tc) rest))
            case atStart => exact ⟨0, Nat.zero_le _, rfl, rfl, rfl, HSI.out.1⟩
            case round =>
              clear HSI cv1
              obtain ⟨i, hi, rfl, rfl, rfl, HJ⟩ := hrel
              by_cases hlt3 : i < n
              · have hiI : (i : Int) < (n : Int) := by omega
                have hwi : IntKind.i64.wrap ((i : Int) + 1) = (i : Int) + 1 := IntWalk.i64_in _ (by omega)
                obtain ⟨x, hx⟩ : ∃ x, rs[i]? = some x := ⟨_, List.getElem?_eq_getElem (by rw [HNN.out]; exact hlt3)⟩
                obtain ⟨av', cv', hev, _, _, hrow⟩ := HJ.out.lv.row.rules
                simp only [Value.slice.injEq] at hev
                obtain ⟨rfl, -, rfl⟩ := hev
                obtain ⟨gx, ox, rfl, hgx, hcx⟩ := hrow (by rw [HNN.out]; omega)
                obtain ⟨x0, x1, x2, x3, x4, x5⟩ := hcx i x hx
                have HQ : Hid (∀ o, FoS z W (wr.alloc o) lb fb bw rb P K (.slice (some ⟨gx, ox, none⟩) n cv) In2 tot2 rs u4 (out ++ prs hd []) (.slice ao5 rl tc) rest) := fun o => HJ.out.quiet ((Keeps.refl _ _).alloc _)
                clear hcx hrow hx HJ
                go_wp2_with fail
                go_roundg (n - (i + 1))
                case measure => omega
                case rel => exact ⟨i + 1, by omega, rfl, by go_num, rfl, HQ.out _⟩
              · have hiI : ¬ (i : Int) < (n : Int) := by omega
                have HJ2 := HJ
                clear HJ
                go_wp2_with fail
                go_roundg (flM P K n In2 rest)
                case measure => exact HDN.out
                case rel => exact ⟨In2, tot2, rest, out ++ prs hd [], rfl, HJ2, HST.out, HOUT.out, by have := HDN.out; have := HFL.out.2.2; omega⟩
          · rw [if_neg hzn] at HST HDN
            have hne : news.isEmpty = false := by
              cases news with
              | nil => exact absurd rfl hzn
              | cons a b => rfl
            have HSI2 : Hid (FoS z W wr lb fb bw rb P K (.slice av n cv) In2 tot2 rs u4 (out ++ prs hd news) (.slice ao5 rl tc) (pick K hd rest (rs.take 0)) ∧ Nx W wr u4 (.slice ao5 rl tc) nb next) := HSI.out
            have hrl4 : rl ≤ 300000000 := by
              have h1 := HFL.out.2.2
              unfold flM at h1
              rw [List.length_cons, HRL.out] at h1
              omega
            clear HSI
            rw [hne]
            clear hzn hne
            go_wp2_with fail
            go_loopg [5, 49] n (fun g tv t wy => ∃ (i : Nat), i ≤ n ∧ g = n - i ∧ t = .int .i64 i ∧ Hid (FoS z W wy lb fb bw rb P K (.slice av n cv) In2 tot2 rs u4 (out ++ prs hd news) tv (pick K hd rest (rs.take i)) ∧ Nx W wy u4 tv nb next))
            case atStart => exact ⟨0, Nat.zero_le _, rfl, rfl, HSI2.out⟩
            case round =>
              clear HSI2 cv1
              obtain ⟨i, hi, rfl, rfl, HJ⟩ := hrel
              by_cases hlt3 : i < n
              · have hiI : (i : Int) < (n : Int) := by omega
                have hwi : IntKind.i64.wrap ((i : Int) + 1) = (i : Int) + 1 := IntWalk.i64_in _ (by omega)
                obtain ⟨x, hx⟩ : ∃ x, rs[i]? = some x := ⟨_, List.getElem?_eq_getElem (by rw [HNN.out]; exact hlt3)⟩
                have hxr := HR.out x (List.mem_of_getElem? hx)
                obtain ⟨av', cv', hev, _, _, hrow⟩ := HJ.out.1.lv.row.rules
                simp only [Value.slice.injEq] at hev
                obtain ⟨rfl, -, rfl⟩ := hev
                obtain ⟨gx, ox, rfl, hgx, hcx⟩ := hrow (by rw [HNN.out]; omega)
                obtain ⟨x0, x1, x2, x3, x4, x5⟩ := hcx i x hx
                have HPK := Lib.hid (pick_take_succ (K := K) (h := hd) (t := rest) hx)
                have hpl := pick_len K hd (rs.take i) rest
                rw [List.length_take, HRL.out] at hpl
                obtain ⟨td, htd⟩ : ∃ td, pick K hd rest (rs.take i) = td := ⟨_, rfl⟩
                rw [htd] at HPK HJ hpl
                obtain ⟨w5, hw5⟩ : ∃ w5, (wr.alloc (.cells #[.int .i64 x.kind, .int .i64 x.head, .int .i64 x.who, .int .i64 x.a, .int .i64 x.b, .int .i64 x.via] 29)) = w5 := ⟨_, rfl⟩
                have hal5 := (MapKept.heap_alloc wr (.cells #[.int .i64 x.kind, .int .i64 x.head, .int .i64 x.who, .int .i64 x.a, .int .i64 x.b, .int .i64 x.via] 29)).1
                have k5 : Keeps (fun _ => False) wr (wr.alloc (.cells #[.int .i64 x.kind, .int .i64 x.head, .int .i64 x.who, .int .i64 x.a, .int .i64 x.b, .int .i64 x.via] 29)) := (Keeps.refl _ _).alloc _
                rw [hw5] at hal5 k5
                obtain ⟨xb, hxb⟩ : ∃ xb, wr.heap.size = xb := ⟨_, rfl⟩
                rw [hxb] at hal5
                obtain ⟨ao6, cp6, rfl, hle6, hmx6, hrow6⟩ := TailRow.rules HJ.out.1.td
                have HS5 := Lib.hid (HJ.out.1.quiet k5)
                have HN5 := Lib.hid (HJ.out.2.quiet k5)
                have HXB : Hid (∀ w', Keeps (fun _ => False) w5 w' → w'.cell? ⟨xb, 0, none⟩ = some (.int .i64 x.kind) ∧ w'.cell? ⟨xb, 1, none⟩ = some (.int .i64 x.head) ∧ w'.cell? ⟨xb, 2, none⟩ = some (.int .i64 x.who) ∧ w'.cell? ⟨xb, 3, none⟩ = some (.int .i64 x.a) ∧ w'.cell? ⟨xb, 4, none⟩ = some (.int .i64 x.b) ∧ w'.cell? ⟨xb, 5, none⟩ = some (.int .i64 x.via)) := fun w' hk => by
                  have e := (hk.block _ (lt_of_heap hal5) (fun x => x)).trans hal5
                  refine ⟨?_, ?_, ?_, ?_, ?_, ?_⟩ <;> (rw [cell_of_heap e]; rfl)
                obtain ⟨b0, b1, b2, b3, b4, b5⟩ := HXB.out w5 (Keeps.refl _ _)
                have nh : w5.cell? ⟨nb, 1, none⟩ = some (.int .i64 (hd : Int)) := by
                  have h0 : next.head = (hd : Int) := by rw [← HHD.out]; exact (Int.toNat_of_nonneg (right_iff HH1.out.2).1.1).symm
                  rw [cell_of_heap HN5.out.at_, h0]; rfl
                have HLK := Lib.hid (looks_spec HS5.out.lv hxr hd)
                have HCT : Hid (∀ w', Keeps (fun _ => False) w5 w' → Calls Tryd.prog 25 #[.slice ao6 td.length cp6, .agg #[.int .i64 x.kind, .int .i64 x.head, .int .i64 x.who, .int .i64 x.a, .int .i64 x.b, .int .i64 x.via]] w' (CtPost w' td x)) := fun w' hk =>
                  rcontains_spec (hrow6.keeps ((k5.trans hk).below (Nat.le_refl _) (fun _ _ x => x)) (fun _ _ _ h => h)) rfl hle6 (by omega) x
                obtain ⟨tl, htl⟩ : ∃ tl, td.length = tl := ⟨_, rfl⟩
                have HTL := Lib.hid htl
                obtain ⟨lk, hlk⟩ : ∃ lk, looksB K x hd = lk := ⟨_, rfl⟩
                have HLB := Lib.hid hlk
                rw [hlk] at HLK
                rw [htl] at HS5 HN5 HCT hpl ⊢
                clear hcx hrow hx HJ hal5 k5 hrow6 hle6 hmx6 htl hlk hxr htd
                go_upto_region 15 with fail
                (try simp only [hw5])
                (try simp only [hxb])
                clear hw5 hxb x0 x1 x2 x3 x4 x5
                cases lk with
                | false =>
                  go_wp2_with (go_at_call 41; refine HLK.out.mono ?_; rintro e w6 ⟨rfl, hk6⟩)
                  have HN : Hid (FoS z W w6 lb fb bw rb P K (.slice (some ⟨gx, ox, none⟩) n cv) In2 tot2 rs u4 (out ++ prs hd news) (.slice ao6 tl cp6) (pick K hd rest (rs.take (i + 1))) ∧ Nx W w6 u4 (.slice ao6 tl cp6) nb next) := by
                    rw [HPK.out]
                    unfold pickStep
                    rw [HLB.out, Bool.false_and, if_neg (by decide)]
                    exact ⟨HS5.out.quiet hk6.out, HN5.out.quiet hk6.out⟩
                  clear HS5 HN5 HXB HLK HCT hk6 b0 b1 b2 b3 b4 b5 nh HPK HLB
                  go_wp2_with fail
                  go_roundg (n - (i + 1))
                  case measure => omega
                  case rel => exact ⟨i + 1, by omega, rfl, by go_num, HN⟩
                | true =>
                  obtain ⟨ct, hct⟩ : ∃ ct, decide (x ∈ td) = ct := ⟨_, rfl⟩
                  have HCB := Lib.hid hct
                  have HCT2 : Hid (∀ w', Keeps (fun _ => False) w5 w' → Calls Tryd.prog 25 #[.slice ao6 tl cp6, .agg #[.int .i64 x.kind, .int .i64 x.head, .int .i64 x.who, .int .i64 x.a, .int .i64 x.b, .int .i64 x.via]] w' fun e w2 => e = .returned (.bool ct) ∧ Hid (Keeps (fun _ => False) w5 w2)) := fun w' hk => (HCT.out w' hk).mono fun e w2 h => by
                    obtain ⟨rfl, h2⟩ := h
                    exact ⟨by rw [hct], hk.trans h2.out⟩
                  clear HCT hct
                  cases ct with
                  | true =>
                    go_wp2_with (first | (go_at_call 41; refine HLK.out.mono ?_; rintro e w6 ⟨rfl, hk6⟩; obtain ⟨b0, b1, b2, b3, b4, b5⟩ := HXB.out w6 hk6.out) | (go_at_call 25; refine (HCT2.out _ hk6.out).mono ?_; rintro e w7 ⟨rfl, hk7⟩))
                    have HN : Hid (FoS z W w7 lb fb bw rb P K (.slice (some ⟨gx, ox, none⟩) n cv) In2 tot2 rs u4 (out ++ prs hd news) (.slice ao6 tl cp6) (pick K hd rest (rs.take (i + 1))) ∧ Nx W w7 u4 (.slice ao6 tl cp6) nb next) := by
                      rw [HPK.out]
                      unfold pickStep
                      rw [HLB.out, HCB.out, Bool.not_true, Bool.and_false, if_neg (by decide)]
                      exact ⟨HS5.out.quiet hk7.out, HN5.out.quiet hk7.out⟩
                    clear HS5 HN5 HXB HLK HCT2 hk6 hk7 b0 b1 b2 b3 b4 b5 nh HPK HLB HCB
                    go_wp2_with fail
                    go_roundg (n - (i + 1))
                    case measure => omega
                    case rel => exact ⟨i + 1, by omega, rfl, by go_num, HN⟩
                  | false =>
                    go_upto_region 16 with (first | (go_at_call 41; refine HLK.out.mono ?_; rintro e w6 ⟨rfl, hk6⟩; obtain ⟨b0, b1, b2, b3, b4, b5⟩ := HXB.out w6 hk6.out) | (go_at_call 25; refine (HCT2.out _ hk6.out).mono ?_; rintro e w7 ⟨rfl, hk7⟩))
                    clear b0 b1 b2 b3 b4 b5
                    obtain ⟨b0, b1, b2, b3, b4, b5⟩ := HXB.out w7 hk7.out
                    have k7 : Keeps (fun _ => False) w7 (w7.alloc (.cells #[.int .i64 x.kind, .int .i64 x.head, .int .i64 x.who, .int .i64 x.a, .int .i64 x.b, .int .i64 x.via] 29)) := (Keeps.refl _ _).alloc _
                    have HS7 := Lib.hid ((HS5.out.quiet hk7.out).quiet k7)
                    have HN7 := Lib.hid ((HN5.out.quiet hk7.out).quiet k7)
                    have hTD := HS7.out.td
                    rw [HTL.out] at hTD
                    have HTD := Lib.hid hTD
                    clear hTD k7 HS5 HN5 HXB HLK HCT2 hk6 hk7 nh
                    go_wp2_with (at_builtin; refine wpList_append_tail _ rfl _ _ 38 rfl 29 i1 _ 6 48 Tryd.underlying38 hi1 hy0 hy1 hy2 rfl (by decide) _ _ _ rfl HTD.out ⟨w7.heap.size, 0, none⟩ 1 1 [.int .i64 x.kind, .int .i64 x.head, .int .i64 x.who, .int .i64 x.a, .int .i64 x.b, .int .i64 x.via] rfl rfl (cells_new w7 _ _) (by intro u hu; simp only [List.mem_cons, List.not_mem_nil, or_false] at hu; rcases hu with rfl | rfl | rfl | rfl | rfl | rfl <;> rfl) (by decide) (by unfold maxLen; omega) (by omega) ?_)
                    intro ao2 cap2 w8 hown2 hgrow horig
                    have HN : Hid (FoS z W w8 lb fb bw rb P K (.slice (some ⟨gx, ox, none⟩) n cv) In2 tot2 rs u4 (out ++ prs hd news) (.slice ao2 (tl + 1) cap2) (pick K hd rest (rs.take (i + 1))) ∧ Nx W w8 u4 (.slice ao2 (tl + 1) cap2) nb next) := by
                      have horig2 : ∀ k, (Value.slice ao2 (tl + 1) cap2).ownBlock = some k → (Value.slice ao6 tl cp6).ownBlock = some k ∨ (w7.alloc (.cells #[.int .i64 x.kind, .int .i64 x.head, .int .i64 x.who, .int .i64 x.a, .int .i64 x.b, .int .i64 x.via] 29)).heap.size ≤ k := fun k e => by have := horig k e; simpa using this
                      rw [HPK.out]
                      unfold pickStep
                      rw [HLB.out, HCB.out, Bool.not_false, Bool.true_and, if_pos rfl]
                      refine ⟨HS7.out.more HS7.out.size ?_ hgrow horig2 HS7.out.apart, HN7.out.more hgrow horig2⟩
                      rw [rlCells_append, List.length_append, HTL.out]
                      exact hown2
                    clear HS7 HN7 HTD hown2 hgrow horig b0 b1 b2 b3 b4 b5 HPK HLB HCB
                    go_wp2_with fail
                    go_roundg (n - (i + 1))
                    case measure => omega
                    case rel => exact ⟨i + 1, by omega, rfl, by go_num, HN⟩
              · have hie : i = n := by omega
                have hiI : ¬ (i : Int) < (n : Int) := by omega
                have hJ := HJ.out.1
                rw [List.take_of_length_le (by rw [HNN.out]; omega)] at hJ
                have HJ2 := Lib.hid hJ
                clear HJ hJ
                go_wp2_with fail
                go_roundg (flM P K n In2 (pick K hd rest rs))
                case measure => exact HDN.out
                case rel => exact ⟨In2, tot2, _, out ++ prs hd news, rfl, HJ2, HST.out, HOUT.out, by have := HDN.out; have := HFL.out.2.2; omega⟩
end Go.Proofs.YtaabmkebbnkonaaDoor
