/-
  A copy of what there is: the same rules, the same members, in memory of its own.
-/
import Derived.Test.YtaabmkebbnkonaaDoorLiveOps
import Derived.Test.YtaabmkebbnkonaaDoorME
import Derived.Deep.RegionHeld3
set_option linter.unusedVariables false
set_option linter.unusedSimpArgs false
set_option linter.unnecessarySimpa false
namespace Go.Proofs.YtaabmkebbnkonaaDoor
open Go.ChangeShapes Go.WideShapes Go.ChangeAt Go.RowKit Go.Deep SetPlain
set_option maxRecDepth 100000
set_option maxHeartbeats 3200000
theorem lcopy_spec {z : Nat} {W : World} {lb P K : Nat} {rs : List Rl} {Fp : Nat → Prop} (h : LvIs z W lb P K rs Fp) (hz : z ≤ W.heap.size) :
    Calls Tryd.prog 22 #[.pointer (some ⟨lb, 0, none⟩)] W fun e W' => ∃ lb2 Fp2, e = .returned (.pointer (some ⟨lb2, 0, none⟩)) ∧ Hid (LvIs z W' lb2 P K rs Fp2 ∧ Keeps (fun _ => False) W W' ∧ ∀ k, Fp2 k → W.heap.size ≤ k) := by
  obtain ⟨fb, bw, rb, v, In, tot, hL, hnd, hIn, hFp⟩ := h
  obtain ⟨av, cv, rfl, _, _, _⟩ := TailRow.rules hL.row
  obtain ⟨n, hn⟩ : ∃ n, rs.length = n := ⟨_, rfl⟩
  have HN := Lib.hid hn
  have HS : Hid (∀ W1, Hid (Keeps (fun _ => False) W W1) → (fun w' : World => w'.cell? ⟨lb, 0, none⟩ = some (.pointer (some ⟨fb, 0, none⟩)) ∧ w'.cell? ⟨lb, 1, none⟩ = some (.slice av n cv) ∧ w'.cell? ⟨lb, 2, none⟩ = some (.int .i64 P) ∧ w'.cell? ⟨lb, 3, none⟩ = some (.int .i64 K)) W1) := fun W1 hk => by rw [← hn]; exact (hL.quiet hk.out).cells
  have HFC : Hid (∀ W1, Hid (Keeps (fun _ => False) W W1) → Calls Tryd.prog 36 #[.pointer (some ⟨fb, 0, none⟩)] W1 fun e W' => ∃ b2, e = .returned (.pointer (some ⟨b2, 0, none⟩)) ∧ Hid (CopyFam W.heap.size b2 (P * K) P In tot W') ∧ Hid (Keeps (fun _ => False) W W')) := fun W1 hk => by
    refine (fcopy_fam (hL.quiet hk.out).fam).mono ?_
    rintro e W' ⟨rfl, ⟨bw2, rb2, hf, hge⟩, hb⟩
    exact ⟨_, rfl, ⟨bw2, rb2, hf, fun k hk2 => Nat.le_trans hk.out.size (hge k hk2)⟩, hk.out.trans (Keeps.of_below hb (Nat.le_refl _))⟩
  have HRC : Hid (∀ W1, Hid (Keeps (fun _ => False) W W1) → Calls Tryd.prog 34 #[.slice av n cv] W1 fun e W' => ∃ au cu, e = .returned (.slice au n cu) ∧ Hid (TailRow W' 29 6 (.slice au n cu) rs.length (rlCells rs) ∧ ∀ k, (Value.slice au n cu).ownBlock = some k → W.heap.size ≤ k) ∧ Hid (Keeps (fun _ => False) W W') ∧ Hid (Keeps (fun _ => False) W1 W')) := fun W1 hk => by
    have := rclone_spec (hL.quiet hk.out).row (Nat.le_trans hL.len (by decide))
    rw [hn] at this
    refine this.mono ?_
    rintro e W' ⟨u, rfl, hp⟩
    obtain ⟨⟨ao, cap, rfl, _, _, hown, htl⟩, hk2⟩ := hp.out
    rw [hn] at htl hown ⊢
    exact ⟨_, _, rfl, ⟨htl, fun k e => Nat.le_trans hk.out.size (hown k e)⟩, hk.out.trans hk2, hk2⟩
  have HFIN : Hid (∀ (b2 : Nat) (u : Value) (wA wB : World), Hid (CopyFam W.heap.size b2 (P * K) P In tot wA) → Hid (Keeps (fun _ => False) wA wB) → Hid (TailRow wB 29 6 u rs.length (rlCells rs) ∧ ∀ k, u.ownBlock = some k → W.heap.size ≤ k) → Hid (Keeps (fun _ => False) W wB) →
      Hid (∃ Fp2, LvIs z (wB.alloc (.cells #[.pointer (some ⟨b2, 0, none⟩), u, .int .i64 P, .int .i64 K] 58)) wB.heap.size P K rs Fp2 ∧ Keeps (fun _ => False) W (wB.alloc (.cells #[.pointer (some ⟨b2, 0, none⟩), u, .int .i64 P, .int .i64 K] 58)) ∧ ∀ k, Fp2 k → W.heap.size ≤ k)) := fun b2 u wA wB hc hAB hr hk => by
    obtain ⟨bw2, rb2, hf, hge⟩ := hc.out
    have hk3 : Keeps (fun _ => False) wB (wB.alloc (lvObj b2 u P K)) := (Keeps.refl _ _).alloc _
    have hal := (MapKept.heap_alloc wB (lvObj b2 u P K)).1
    have hfB := hf.keeps hAB.out (fun _ _ x => x)
    have hub : ∀ k, u.ownBlock = some k → ∃ cur, wB.heap[k]? = some (.cells cur 29 (0, 0)) := fun k e => TailRow.lt hr.out.1 k e
    have hs := hk.out.size
    refine ⟨lvFp wB.heap.size b2 bw2 rb2 (P * K) u, ⟨b2, bw2, rb2, u, In, tot, ?_, hnd, hIn, fun k => Iff.rfl⟩, hk.out.trans hk3, ?_⟩
    · refine ⟨hal, hfB.keeps hk3 (fun _ _ x => x), TailRow.keeps hr.out.1 hk3 (fun _ _ x => x), fun k e => Nat.le_trans hz (hr.out.2 k e), fun hx => ?_, fun e => ?_, fun k e hx => ?_, Nat.le_trans hz hs, fun k hx => Nat.le_trans hz (hge k hx), hL.hP, hL.hK, hL.len, hL.tot_, hL.right⟩
      · have := hfB.lt _ hx
        omega
      · obtain ⟨cur, hc2⟩ := hub _ e
        have := lt_of_heap hc2
        omega
      · obtain ⟨cur, hc2⟩ := hub _ e
        exact famFp_ne hfB hc2 (by decide) (by decide) (by decide) hx
    · rintro k (rfl | hx | hx)
      · exact hs
      · exact hge k hx
      · exact hr.out.2 k hx
  have HK0 : Hid (Keeps (fun _ => False) W W.drew) := (Keeps.refl _ _).drew
  have hS0 := HS.out W.drew HK0
  clear hL hnd hIn hFp hn
  go_enter Tryd.func22, Tryd.ntmps22
  go_upto_region 3 with fail
  go_region_held3 (fun w' => w'.cell? ⟨lb, 0, none⟩ = some (.pointer (some ⟨fb, 0, none⟩)) ∧ w'.cell? ⟨lb, 1, none⟩ = some (.slice av n cv) ∧ w'.cell? ⟨lb, 2, none⟩ = some (.int .i64 P) ∧ w'.cell? ⟨lb, 3, none⟩ = some (.int .i64 K)) (first | exact hS0 | exact HS.out _ (by assumption) | (refine HS.out _ ?_; exact hkB.out.alloc _)) (first | (go_at_call 36; refine (HFC.out _ (by assumption)).mono ?_; rintro e wA ⟨b2, rfl, hcf, hkA⟩) | (go_at_call 34; refine (HRC.out _ (by assumption)).mono ?_; rintro e wB ⟨au, cu, rfl, hrow, hkB, hkAB⟩))
  have HP := HFIN.out _ _ _ _ hcf hkAB hrow hkB
  clear HFIN HFC HRC HS HK0 hS0
  go_wp2_with fail
  go_ret
  obtain ⟨Fp2, h1, h2, h3⟩ := HP.out
  exact ⟨_, Fp2, rfl, h1, h2, h3⟩
end Go.Proofs.YtaabmkebbnkonaaDoor
