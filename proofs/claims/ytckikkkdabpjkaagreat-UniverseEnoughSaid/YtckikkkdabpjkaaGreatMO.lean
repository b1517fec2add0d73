/-
 slices.Concat of two rows of roles: one behind the other, in a row of its own.
-/
import Derived.Test.YtckikkkdabpjkaaGreatKitSq
import Derived.Test.YtckikkkdabpjkaaGreatME
import Derived.Lib.AppendZerosOnto
import Derived.Test.YtckikkkdabpjkaaGreatMC
set_option linter.unusedVariables false
set_option linter.unusedSimpArgs false
set_option linter.unnecessarySimpa false
namespace Go.Proofs.YtckikkkdabpjkaaGreat
open Go.ChangeShapes Go.WideShapes Go.ChangeAt Go.RowKit Go.Deep
section
set_option maxRecDepth 100000
set_option maxHeartbeats 1600000
theorem rgrow_spec (W : World) {n : Nat} (hn : n ≤ 1000000) :
 Calls Tryz.prog 193 #[.slice none 0 0, .int .i64 n] W fun e W' => ∃ v, e = .returned v ∧ Hid (OwnK rolE W.heap.size W' v [] ∧ KF W W') := by
 rcases Nat.eq_zero_or_pos n with h0 | h0
 ·subst h0
  have HP : Hid (OwnK rolE W.heap.size W (.slice none 0 0) [] ∧ KF W W) := ⟨ownK_nil rolE _ _, Keeps.refl _ _⟩
  go_enter Tryz.func193, Tryz.ntmps193
  go_wp2_with fail
  go_ret
  exact ⟨_, rfl, HP⟩
 ·obtain ⟨i0, hi0, hz0, hz1, hz2⟩ := info_parts (rolE).hT
  have hz1 : i0.size = 2 := hz1
  have hz2 : i0.bytes = 32 := hz2
  have hz0 : i0.zero = some (.agg #[.string ⟨#[]⟩, .string ⟨#[]⟩]) := hz0
  obtain ⟨G, hG⟩ : ∃ G, grownCap W n 0 28 = G := ⟨_, rfl⟩
  have hGn : n ≤ G := by rw [← hG]; exact grownCap_ge W _ _ _
  have hGm : G ≤ maxLen := by rw [← hG]; exact grownCap_le_maxLen W n 0 _ (by unfold maxLen; omega)
  have hrz : ∀ ty, (Builtin.append_ #[23, 3] ty #[.slice none 0 0, .int .i64 (n : Int)]).run Tryz.prog W = .ok (.slice (some ⟨W.heap.size, 0, none⟩) n G) (W.drew.alloc (.cells (Builtin.zeroCells #[.string ⟨#[]⟩, .string ⟨#[]⟩] n ++ Builtin.zeroCells #[.string ⟨#[]⟩, .string ⟨#[]⟩] (G - n)) 28)) := fun ty => by
   have h := Lib.run_append_grow_zeros W 23 3 ty 28 i0 (.agg #[.string ⟨#[]⟩, .string ⟨#[]⟩]) .i64 .i64 Tryz.underlying23 Tryz.underlying3 hi0 hz0 none 0 0 [] (run_firstCells_none W.drew i0.size 0 0 0) n h0 (by omega) (by omega) (by omega) (by rw [hz2]; omega)
    (by have := growslice_fits (need := 0 + n) (old := 0) (bytes := i0.bytes) (by omega) (by rw [hz2]; omega); exact this)
   simp only [Nat.zero_add] at h
   rw [hG] at h
   rw [h, Array.empty_append]
   rfl
  have hsz : ∀ m : Nat, (Builtin.zeroCells #[.string ⟨#[]⟩, .string ⟨#[]⟩] m).size = m * 2 := fun m => by simp [Builtin.zeroCells]
  have HP : Hid (OwnK rolE W.heap.size (W.drew.alloc (.cells (Builtin.zeroCells #[.string ⟨#[]⟩, .string ⟨#[]⟩] n ++ Builtin.zeroCells #[.string ⟨#[]⟩, .string ⟨#[]⟩] (G - n)) 28)) (.slice (some ⟨W.heap.size, 0, none⟩) 0 G) [] ∧ KF W (W.drew.alloc (.cells (Builtin.zeroCells #[.string ⟨#[]⟩, .string ⟨#[]⟩] n ++ Builtin.zeroCells #[.string ⟨#[]⟩, .string ⟨#[]⟩] (G - n)) 28))) :=
   ⟨World.ownsRow_made W.drew _ G (Nat.le_refl _) hGm (by rw [Array.size_append, hsz, hsz]; show _ = G * 2; omega), ((Keeps.refl _ _).drew).alloc _⟩
  have hG0 : (0 : Int) ≤ (G : Int) := by omega
  have hnpos : ¬ (n : Int) < 0 := by omega
  have hn2 : (n : Int) > 0 := by omega
  have hw : IntKind.i64.wrap (n : Int) = (n : Int) := IntWalk.i64_in _ (by omega)
  clear hi0 hz0 hz1 hz2 hG hGm hsz
  generalize (W.drew.alloc (.cells (Builtin.zeroCells #[.string ⟨#[]⟩, .string ⟨#[]⟩] n ++ Builtin.zeroCells #[.string ⟨#[]⟩, .string ⟨#[]⟩] (G - n)) 28)) = W2 at hrz HP
  go_enter Tryz.func193, Tryz.ntmps193
  go_wp2_with (at_builtin; refine Lib.wpList_append_run _ rfl _ _ _ _ rfl _ _ rfl rfl _ _ (hrz _) ?_)
  all_goals
   go_ret
   exact ⟨_, rfl, HP⟩
def sumR (Ls : Nat → List Rol) : Nat → Nat
 | 0 => 0
 | j + 1 => sumR Ls j + (Ls j).length
def catR (Ls : Nat → List Rol) : Nat → List Rol
 | 0 => []
 | j + 1 => catR Ls j ++ Ls j
theorem catR_len (Ls : Nat → List Rol) : ∀ j, (catR Ls j).length = sumR Ls j
 | 0 => rfl
 | j + 1 => by
  unfold catR sumR
  rw [List.length_append, catR_len Ls j]
theorem sumR_le {Ls : Nat → List Rol} {b : Nat} (h : ∀ j, (Ls j).length ≤ b) : ∀ j, sumR Ls j ≤ j * b
 | 0 => Nat.zero_le _
 | j + 1 => by
  unfold sumR
  have := sumR_le h j
  have := h j
  rw [Nat.succ_mul]
  omega
theorem rconcat_gen {W : World} {ga : Nat} {us : Nat → Value} {Ls : Nat → List Rol} (hga : ga < W.heap.size) (hc : ∀ j, j < 2 → W.cell? ⟨ga, j, none⟩ = some (us j)) (hr : ∀ j, j < 2 → SrcK rolE W (us j) (Ls j)) (hb : ∀ j, (Ls j).length ≤ 10000) :
 Calls Tryz.prog 170 #[.slice (some ⟨ga, 0, none⟩) 2 2] W fun e W' => ∃ v, e = .returned v ∧ Hid (OwnK rolE W.heap.size W' v (catR Ls 2) ∧ KF W W') := by
 have HC := Lib.hid hc
 have HR := Lib.hid hr
 have HB := Lib.hid hb
 have HSL := Lib.hid (sumR_le hb)
 clear hc hr hb
 go_enter Tryz.func170, Tryz.ntmps170
 go_wp2_with fail
 go_loopg [3, 11] 2 (fun gh s3 t wy => ∃ (j q : Nat), j ≤ 2 ∧ gh = 2 - j ∧ t = .int .i64 j ∧ s3 = .int .i64 q ∧ Hid (q = sumR Ls j) ∧ W = wy)
 case atStart => exact ⟨0, 0, by omega, rfl, rfl, rfl, rfl, rfl⟩
 case round =>
  obtain ⟨j, q, hj, rfl, rfl, rfl, hq, rfl⟩ := hrel
  by_cases hlt : j < 2
  ·have hjI : (j : Int) < 2 := by omega
   have hwj : IntKind.i64.wrap ((j : Int) + 1) = (j : Int) + 1 := IntWalk.i64_in _ (by omega)
   have c1 := HC.out j hlt
   have hbj := HB.out j
   have hq3 : q ≤ 20000 := by
    have := HSL.out j
    rw [hq.out]; omega
   obtain ⟨ao, cap, hu, hcap⟩ : ∃ ao cap, us j = .slice ao (Ls j).length cap ∧ True := by
    obtain ⟨ao, cap, h1, _⟩ := (HR.out j hlt).1
    exact ⟨ao, cap, h1, trivial⟩
   rw [hu] at c1
   obtain ⟨m, hm⟩ : ∃ m, (Ls j).length = m := ⟨_, rfl⟩
   have HQ : Hid (q + m = sumR Ls (j + 1)) := by
    show q + m = sumR Ls j + (Ls j).length
    rw [hq.out, hm]
   rw [hm] at c1 hbj
   have hwq : IntKind.i64.wrap ((q : Int) + (m : Int)) = ((q + m : Nat) : Int) := (IntWalk.i64_in _ (by omega)).trans (by omega)
   have hnn : ¬ ((q + m : Nat) : Int) < 0 := by omega
   clear hq hm hu
   obtain ⟨q2, hq2⟩ : ∃ q2, q + m = q2 := ⟨_, rfl⟩
   rw [hq2] at HQ hwq hnn
   go_wp2_with fail
   go_roundg (2 - (j + 1))
   case measure => omega
   case rel => exact ⟨j + 1, q2, by omega, rfl, by go_num, rfl, HQ, rfl⟩
  ·have hj3 : j = 2 := by omega
   have hjI : ¬ (j : Int) < 2 := by omega
   have HG := Lib.hid (rgrow_spec W (n := q) (by have := HSL.out 2; rw [hq.out, hj3]; omega))
   clear hq
   go_wp2_with fail
   refine HG.out.mono ?_
   rintro e w2 ⟨v2, rfl, hv2⟩
   clear HG
   go_wp2_with fail
   go_loopg [6, 27] 2 (fun gh s6 t wy => ∃ (i : Nat) (v : Value), i ≤ 2 ∧ gh = 2 - i ∧ t = .int .i64 i ∧ v = s6 ∧ Hid (OwnK rolE W.heap.size wy v (catR Ls i) ∧ KF W wy))
   case atStart => exact ⟨0, v2, by omega, rfl, rfl, rfl, hv2.out⟩
   case round =>
    clear hv2
    obtain ⟨i, v, hi, rfl, rfl, rfl, HI⟩ := hrel
    by_cases hlt2 : i < 2
    ·have hiI : (i : Int) < 2 := by omega
     have hwi : IntKind.i64.wrap ((i : Int) + 1) = (i : Int) + 1 := IntWalk.i64_in _ (by omega)
     have c1 := (HI.out.2.cell (p := ⟨ga, i, none⟩) hga (fun x => x)).trans (HC.out i hlt2)
     have HRI : Hid (SrcK rolE wr (us i) (Ls i)) := (HR.out i hlt2).keeps HI.out.2
     have HOW := Lib.hid HI.out.1
     have HKP := Lib.hid HI.out.2
     have HLN : Hid ((catR Ls i).length + (Ls i).length ≤ 100000) := by have := HB.out i; have := HSL.out i; show _ ≤ _; rw [catR_len]; omega
     have HZW : Hid (W.heap.size ≤ wr.heap.size) := HI.out.2.size
     clear HI
     go_wp2_with (at_builtin; refine app_k (E := rolE) rfl _ _ rfl W.heap.size v _ rfl HOW.out _ _ rfl HRI.out HLN.out HZW.out ?_)
     intro v3 w6 ho hk
     have HN : Hid (OwnK rolE W.heap.size w6 v3 (catR Ls (i + 1)) ∧ KF W w6) := ⟨ho, HKP.out.trans_new hk (fun x hx e => by have := own_block HOW.out x e; omega)⟩
     clear HOW HKP HRI HLN HZW ho hk
     go_wp2_with fail
     go_roundg (2 - (i + 1))
     case measure => omega
     case rel => exact ⟨i + 1, v3, by omega, rfl, by go_num, rfl, HN⟩
    ·have hi3 : i = 2 := by omega
     have hiI : ¬ (i : Int) < 2 := by omega
     subst hi3
     go_wp2_with fail
     go_ret
     exact ⟨_, rfl, HI⟩
/-- Of two rows. -/
theorem rconcat_spec {W : World} {ga : Nat} {u0 u1 : Value} {l0 l1 : List Rol} (hga : ga < W.heap.size) (hc0 : W.cell? ⟨ga, 0, none⟩ = some u0) (hc1 : W.cell? ⟨ga, 1, none⟩ = some u1) (h0 : SrcK rolE W u0 l0) (h1 : SrcK rolE W u1 l1) (hb0 : l0.length ≤ 10000) (hb1 : l1.length ≤ 10000) :
 Calls Tryz.prog 170 #[.slice (some ⟨ga, 0, none⟩) 2 2] W fun e W' => ∃ v, e = .returned v ∧ Hid (OwnK rolE W.heap.size W' v (l0 ++ l1) ∧ KF W W') := by
 have q := rconcat_gen (W := W) (ga := ga) (us := fun j => if j = 0 then u0 else u1) (Ls := fun j => if j = 0 then l0 else l1) hga (fun j hj => by
  rcases (show j = 0 ∨ j = 1 by omega) with rfl | rfl
  ·exact hc0
  ·exact hc1) (fun j hj => by
  rcases (show j = 0 ∨ j = 1 by omega) with rfl | rfl
  ·exact h0
  ·exact h1) (fun j => by
  show (if j = 0 then l0 else l1).length ≤ _
  split <;> assumption)
 exact q
end
end Go.Proofs.YtckikkkdabpjkaaGreat
/-
 The document's Same, of rows of statements that are the same.
-/
set_option linter.unusedVariables false
set_option linter.unusedSimpArgs false
set_option linter.unnecessarySimpa false
namespace Go.Proofs.YtckikkkdabpjkaaGreat
open Go.ChangeShapes Go.WideShapes Go.ChangeAt Go.RowKit Go.Deep
set_option maxRecDepth 100000
set_option maxHeartbeats 3200000
end Go.Proofs.YtckikkkdabpjkaaGreat
