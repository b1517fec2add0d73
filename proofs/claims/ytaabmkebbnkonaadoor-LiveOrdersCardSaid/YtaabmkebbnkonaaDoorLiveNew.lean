/-
  A new one; what it tells of one; the document's example.
-/
import Derived.Test.YtaabmkebbnkonaaDoorLiveDrop
import Derived.Test.YtaabmkebbnkonaaDoorLiveAdd
import Derived.Test.YtaabmkebbnkonaaDoorLiveAsk
import Derived.Test.YtaabmkebbnkonaaDoorMA
set_option linter.unusedVariables false
set_option linter.unusedSimpArgs false
set_option linter.unnecessarySimpa false
namespace Go.Proofs.YtaabmkebbnkonaaDoor
open Go.ChangeShapes Go.WideShapes Go.ChangeAt Go.RowKit Go.Deep SetPlain
theorem within_clip {p : Int} {P : Nat} (h : Within p 64 P) : max 0 (min p 64) = (P : Int) := by
  unfold Within at h
  omega
theorem der_none (K i c : Nat) : ¬ Der K [] i c := by
  intro h
  induction h <;> simp_all
theorem cnt_no : ∀ P, cnt (fun _ => false) P = 0
  | 0 => rfl
  | m + 1 => by unfold cnt; rw [cnt_no m]; rfl
theorem totIn_zero (P : Nat) : ∀ N, totIn P N (fun _ _ => false) = 0
  | 0 => rfl
  | n + 1 => by
    have h := totIn_zero P n
    unfold totIn at h ⊢
    unfold sumTo
    rw [h]
    have := cnt_no P
    simp only [this]
def NewPost (z : Nat) (P K : Nat) (W : World) (e : Ending) (W' : World) : Prop :=
  ∃ lb Fp, e = .returned (.pointer (some ⟨lb, 0, none⟩)) ∧ Hid (LvIs z W' lb P K [] Fp ∧ Keeps (fun _ => False) W W' ∧ ∀ k, Fp k → W.heap.size ≤ k)
set_option maxRecDepth 100000 in
set_option maxHeartbeats 3200000 in
theorem lnew_spec {z : Nat} {p k : Int} {P K : Nat} (hP : Within p 64 P) (hK : Within k 64 K) (W : World) (hz : z ≤ W.heap.size) :
    Calls Tryd.prog 7 #[.int .i64 p, .int .i64 k] W (NewPost z P K W) := by
  have hPl := hP.le
  have hKl := hK.le
  have hpe := within_clip hP
  have hke := within_clip hK
  obtain ⟨N, hN⟩ : ∃ N, P * K = N := ⟨_, rfl⟩
  have hN4 : N ≤ 64 * 64 := by rw [← hN]; exact Nat.mul_le_mul hPl hKl
  have hm : IntKind.i64.wrap ((P : Int) * (K : Int)) = (N : Int) := by rw [← hN, Int.natCast_mul]; exact IntWalk.i64_in _ (by rw [← Int.natCast_mul, hN]; omega)
  have HF : Hid (Calls Tryd.prog 23 #[.int .i64 N, .int .i64 P] W (FamNewPost N P W)) := fnew_spec (N : Int) (P : Int) N P (by unfold Within; omega) (by unfold Within; omega) W
  have HNE := Lib.hid hN
  clear hP hK hN
  go_enter Tryd.func7, Tryd.ntmps7
  go_upto_region 2 with fail
  (try simp only [hpe, hke])
  clear hpe hke
  go_wp2_with (go_at_call 23; refine HF.out.mono ?_; rintro e w1 ⟨rfl, hfam, hb⟩)
  have hk1 : Keeps (fun _ => False) W w1 := Keeps.of_below hb (Nat.le_refl _)
  have hal := (MapKept.heap_alloc w1 (lvObj W.heap.size (.slice none 0 0) P K)).1
  have hk2 : Keeps (fun _ => False) w1 (w1.alloc (lvObj W.heap.size (.slice none 0 0) P K)) := (Keeps.refl _ _).alloc _
  have hff : ∀ k, famFp W.heap.size (W.heap.size + 1) (fun i => W.heap.size + 2 + i) N k → W.heap.size ≤ k := by
    rintro k (rfl | rfl | ⟨i, _, rfl⟩)
    · exact Nat.le_refl _
    · exact Nat.le_succ _
    · show W.heap.size ≤ W.heap.size + 2 + i
      omega
  have hfl : ∀ k, famFp W.heap.size (W.heap.size + 1) (fun i => W.heap.size + 2 + i) N k → k < w1.heap.size := hfam.lt
  have hs := hk1.size
  have HP : Hid (LvIs z (w1.alloc (lvObj W.heap.size (.slice none 0 0) P K)) w1.heap.size P K [] (lvFp w1.heap.size W.heap.size (W.heap.size + 1) (fun i => W.heap.size + 2 + i) N (.slice none 0 0)) ∧ Keeps (fun _ => False) W (w1.alloc (lvObj W.heap.size (.slice none 0 0) P K)) ∧ ∀ k, lvFp w1.heap.size W.heap.size (W.heap.size + 1) (fun i => W.heap.size + 2 + i) N (.slice none 0 0) k → W.heap.size ≤ k) := by
    refine ⟨⟨W.heap.size, W.heap.size + 1, fun i => W.heap.size + 2 + i, .slice none 0 0, fun _ _ => false, 0, ?_, List.nodup_nil, fun i c => ⟨fun h => (by cases h), fun h => absurd h.2.2 (der_none _ _ _)⟩, fun k => by rw [HNE.out]⟩, hk1.trans hk2, ?_⟩
    · refine ⟨hal, by rw [HNE.out]; exact hfam.keeps hk2 (fun _ _ x => x), TailRow.nil _ _ _, fun k e => (by cases e), ?_, fun e => (by cases e), fun k e => (by cases e), Nat.le_trans hz hs, ?_, hPl, hKl, by simp, (totIn_zero _ _).symm, fun r h => (by cases h)⟩
      · rw [HNE.out]; intro h; have := hfl _ h; omega
      · rw [HNE.out]; intro k h; have := hff _ h; omega
    · rintro k (rfl | h | h)
      · exact hs
      · exact hff k h
      · cases h
  unfold lvObj at HP
  clear HF hfam hb hk1 hal hk2 hff hfl hs HNE
  go_ret
  exact ⟨_, _, rfl, HP⟩
end Go.Proofs.YtaabmkebbnkonaaDoor
