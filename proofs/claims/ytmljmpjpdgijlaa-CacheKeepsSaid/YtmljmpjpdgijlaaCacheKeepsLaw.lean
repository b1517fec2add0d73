/-
  The walk of the law CacheKeeps.
-/
import Derived.Test.YtmljmpjpdgijlaaCacheKeepsWalk
import Derived.Deep.QuietTactic
import Derived.BigQuiet
namespace Go.Proofs.Ytmljmpjpdgijlaa
open Go.RowKit Go.Deep

theorem putInfo : (Try.prog.info? 44).map (fun i => (i.zero, i.size, i.bytes)) = some (some (.agg #[.int .i64 0, .int .i64 0, .int .i64 0, .int .i64 0, .int .i64 0]), 5, 40) := by kernel_rfl

/-- What holds at each round's head. -/
structure KeepsInv (w wr : World) (base b bp N : Nat) (v : Value) (k n : Nat) (hits : Int) (A : Nat → CKey × Int) (F : Nat → Option (CKey × Int)) : Prop where
  n_le : n ≤ k
  h0 : 0 ≤ hits
  h1 : hits ≤ k
  cache : CacheAt wr b bp N hits F
  link : ∀ s, F s = lastSl (slK N) A s n
  own : PutOwn wr base v n A
  below : Below w.heap.size w wr

set_option maxRecDepth 100000 in
set_option maxHeartbeats 3200000 in
theorem cacheKeeps_walk (w : World) (sz : Int) (hs0 : -9223372036854775808 ≤ sz) (hs1 : sz ≤ 9223372036854775807) (ao : Option Addr) (n0 cap : Nat) (G : Nat → Nat → Value) (R : IsRow w [.int .u64, .int .i64, .int .i64, .int .i64, .int .i64, .int .i64] ao n0 cap G) :
    Calls Try.prog 5 #[.int .i64 sz, .slice ao n0 cap] w fun e w' => e = .returned (.bool true) ∧ Below w.heap.size w w' := by
  have hcap := R.le
  have hmax := R.max
  unfold maxLen at hmax
  obtain ⟨Kd, O, hKd, hA⟩ := R.ops
  have HK := Lib.hid hKd; have HA := Lib.hid hA
  clear R hKd hA
  obtain ⟨i0, hi, hz0, hz1, hz2⟩ := info_parts putInfo
  go_enter Try.func5, Try.ntmps5
  go_upto_region 1 with fail
  go_cut [1] (fun s wx => ∃ m : Nat, s = .slice ao m cap ∧ m ≤ n0 ∧ m ≤ 80 ∧ w = wx)
  case first =>
    go_wp2
    all_goals (go_meet; first | exact ⟨n0, rfl, by omega, by omega, rfl⟩ | exact ⟨80, rfl, by omega, by omega, rfl⟩)
  case rest =>
    obtain ⟨m, rfl, hmn, hm80, rfl⟩ := hcut
    go_wp2_with fail
    refine (cacheNew_any sz _).mono ?_
    rintro e w1 ⟨N, b, bp, rfl, h1, h2, hP, hs, hb, hc⟩
    clear hP hs hs0 hs1
    go_wp2_with fail
    obtain ⟨l1, l2⟩ := hc.lt
    go_loopw [27, 6, 7] (fun i v hh wr => ∃ (k n : Nat) (hits : Int) (A : Nat → CKey × Int) (F : Nat → Option (CKey × Int)), k ≤ m ∧ i = .int .i64 k ∧ hh = .int .i64 hits ∧ KeepsInv w wr w1.heap.size b bp N v k n hits A F ∧ w1.heap.size ≤ wr.heap.size) (fun i _ _ _ => m - (intOf i).toNat)
    case atStart => exact ⟨0, 0, 0, fun _ => default, fun _ => none, Nat.zero_le _, rfl, rfl, ⟨Nat.le_refl _, by omega, by omega, hc, fun _ => rfl, World.ownsRow_nil _ _ _ _, hb⟩, Nat.le_refl _⟩
    case round =>
      obtain ⟨k, n, hits, A, F, hk, rfl, rfl, inv, hwz⟩ := hrel
      obtain ⟨hn, hh0, hh1, hca, hlink, hown, hbel⟩ := inv
      obtain ⟨av, cv, rfl, hcv, hmv, hgv⟩ := hown.form
      unfold maxLen at hmv
      have HGV := Lib.hid hgv; clear hgv
      have hwz0 : w.heap.size ≤ wr.heap.size := hbel.size
      by_cases hlt : k < m
      · obtain ⟨bK, off, rfl, hbl, hcell⟩ := HA.out (by omega)
        have hkd := HK.out k (by omega)
        obtain ⟨c0, c1, c2, c3, c4, c5⟩ := hcell k (by omega)
        have hx := fun o => hbel.cell (p := ⟨bK, o, none⟩) hbl
        rw [← hx] at c0 c1 c2 c3 c4 c5
        clear hx hcell
        obtain ⟨⟨⟨⟨k0, k1, k2, k3⟩, x⟩, hO⟩, kd, hKd⟩ : (∃ p, p = O k) ∧ ∃ kd, kd = Kd k := ⟨⟨_, rfl⟩, _, rfl⟩
        rw [← hKd] at c0 hkd
        rw [← hO] at c1 c2 c3 c4 c5
        simp only [] at c1 c2 c3 c4 c5
        clear hO hKd
        have hbK : bK < wr.heap.size := by omega
        have Hlink := Lib.hid hlink; clear hlink
        have Hbel := Lib.hid hbel; clear hbel
        obtain ⟨r, hr⟩ : ∃ r, kd % 5 = r := ⟨_, rfl⟩
        have hr5 : (r = 0 ∨ r = 1) ∨ (r = 2 ∨ r = 3) ∨ r = 4 := by omega
        have hown2 : ∀ o1 o2, PutOwn ((wr.alloc o1).alloc o2) w1.heap.size (.slice av n cv) n A := fun o1 o2 => (hown.alloc _).alloc _
        have hca2 : ∀ o1 o2, CacheAt ((wr.alloc o1).alloc o2) b bp N hits F := fun o1 o2 => (hca.alloc _).alloc _
        rcases hr5 with hr5 | hr5 | hr5
        · rcases hr5 with rfl | rfl
          all_goals
            go_wp2_with fail
            refine (put_spec _ _ _ _ _ _ (hca2 _ _)).mono ?_
            rintro e w2 ⟨rfl, kp2, c2'⟩
            have own2 := ownsRow_keeps (hown2 _ _) kp2 (fun i h => by omega)
            obtain ⟨oc, kc, hz2'⟩ := new_cell2 kp2 (fun i h => by omega)
            have q0 : w2.cell? ⟨wr.heap.size + 1, 0, none⟩ = some (.int .i64 k0) := (kc 0).trans rfl
            have q1 : w2.cell? ⟨wr.heap.size + 1, 1, none⟩ = some (.int .i64 k1) := (kc 1).trans rfl
            have q2 : w2.cell? ⟨wr.heap.size + 1, 2, none⟩ = some (.int .i64 k2) := (kc 2).trans rfl
            have q3 : w2.cell? ⟨wr.heap.size + 1, 3, none⟩ = some (.int .i64 k3) := (kc 3).trans rfl
            have q5 : w2.cell? ⟨wr.heap.size, 5, none⟩ = some (.int .i64 x) := (oc 5).trans rfl
            clear oc kc
            go_wp2_with (at_builtin; refine wpList_append_own _ rfl _ _ 37 rfl w1.heap.size 44 i0 _ 5 40 Try.underlying37 hi hz0 hz1 hz2 rfl (by decide) _ _ _ rfl (own2.alloc _) ⟨w2.heap.size, 0, none⟩ 1 1 [.int .i64 k0, .int .i64 k1, .int .i64 k2, .int .i64 k3, .int .i64 x] rfl rfl (cells_new w2 _ _) (by intro u hu; simp only [List.mem_cons, List.not_mem_nil, or_false] at hu; rcases hu with rfl | rfl | rfl | rfl | rfl <;> rfl) (by unfold maxLen; omega) (by omega) (by simp; omega) ?_)
            intro v' w3 hown3 hgrow3 _
            have hown3' : PutOwn w3 w1.heap.size v' (n + 1) (addTo A n ((k0, k1, k2, k3), x)) := by show World.ownsRow _ _ _ _ _ _ _; rw [cellsTo_add]; exact hown3
            have kg := (keeps_grown hgrow3).mono (T := fun i => w1.heap.size ≤ i) (fun i _ h => own_block own2 i h)
            have c3' := (c2'.alloc (.cells #[.int .i64 k0, .int .i64 k1, .int .i64 k2, .int .i64 k3, .int .i64 x] 44)).keeps kg (by omega) (by omega)
            have bel3 : Below w.heap.size w w3 := Hbel.out.trans ((((Keeps.refl (fun i => i = bp) wr).alloc _).alloc _ |>.trans kp2 |>.alloc _ |>.tr kg).below hwz0 (fun i hi h => by rcases h with h | h <;> omega))
            have hz3 : wr.heap.size ≤ w3.heap.size := by have := hgrow3.size; simp at this; omega
            clear hown3 hgrow3 kg own2 c2' kp2
            go_wp2_with (go_at_call 21; refine (hits_spec _ c3').mono ?_; rintro e w' ⟨rfl, rfl⟩)
            go_roundw
            case rel => exact ⟨k + 1, n + 1, hits, _, _, by omega, by go_num, rfl, ⟨by omega, hh0, by omega, c3', link_add Hlink.out k0 k1 k2 k3 x, hown3', bel3⟩, by omega⟩
            case measure => simp [intOf]; omega
        · have hlk : look N F k0 k1 k2 k3 = lookAt (lastSl (slK N) A (slK N (k0, k1, k2, k3)) n) (k0, k1, k2, k3) := by
            show lookAt (F (slotOf N k0 k1 k2 k3)) (k0, k1, k2, k3) = _
            rw [Hlink.out]; rfl
          have GP := fun W (h : CacheAt W b bp N hits F) => get_spec k0 k1 k2 k3 W h hh0 (by omega)
          rw [hlk] at GP
          have HGP := Lib.hid GP; clear GP hlk
          rcases hr5 with rfl | rfl
          all_goals
            go_wp2_with fail
            refine (HGP.out _ (hca2 _ _)).mono ?_
            rintro e w2 ⟨rfl, kp2, c2'⟩
            have own2 := ownsRow_keeps (hown2 _ _) kp2 (fun i h => by omega)
            obtain ⟨oc, kc, hz2'⟩ := new_cell2 kp2 (fun i h => by omega)
            have q0 : w2.cell? ⟨wr.heap.size + 1, 0, none⟩ = some (.int .i64 k0) := (kc 0).trans rfl
            have q1 : w2.cell? ⟨wr.heap.size + 1, 1, none⟩ = some (.int .i64 k1) := (kc 1).trans rfl
            have q2 : w2.cell? ⟨wr.heap.size + 1, 2, none⟩ = some (.int .i64 k2) := (kc 2).trans rfl
            have q3 : w2.cell? ⟨wr.heap.size + 1, 3, none⟩ = some (.int .i64 k3) := (kc 3).trans rfl
            have bel2 : Below w.heap.size w w2 := Hbel.out.trans ((((Keeps.refl (fun i => i = b) wr).alloc _).alloc _ |>.trans kp2).below hwz0 (fun i hi h => by omega))
            clear oc kc kp2
            go_wp2_with fail
            refine (last_own k0 k1 k2 k3 w2 (by omega) own2).mono ?_
            rintro e w3 ⟨rfl, hb3⟩
            have r0 := (hb3.cell (p := ⟨wr.heap.size + 1, 0, none⟩) (by simp; omega)).trans q0
            have r1 := (hb3.cell (p := ⟨wr.heap.size + 1, 1, none⟩) (by simp; omega)).trans q1
            have r2 := (hb3.cell (p := ⟨wr.heap.size + 1, 2, none⟩) (by simp; omega)).trans q2
            have r3 := (hb3.cell (p := ⟨wr.heap.size + 1, 3, none⟩) (by simp; omega)).trans q3
            have kk3 : Keeps (fun _ => False) w2 w3 := Keeps.of_below hb3 (Nat.le_refl _)
            have c3' := c2'.keeps kk3 (fun h => h) (fun h => h)
            have own3 := ownsRow_keeps own2 kk3 (fun i h => h.elim)
            have bel3 := bel2.trans (hb3.mono bel2.size)
            have hz3 : wr.heap.size ≤ w3.heap.size := by have := hb3.size; omega
            clear q0 q1 q2 q3 own2 c2' hb3 kk3 bel2
            cases hlo : lookAt (lastSl (slK N) A (slK N (k0, k1, k2, k3)) n) (k0, k1, k2, k3) with
            | some y =>
              rw [look_some (slK N) A (k0, k1, k2, k3) y n hlo]
              have c3 : CacheAt w3 b bp N (hits + 1) F := by rw [hlo] at c3'; exact c3'
              have Hown := Lib.hid own3
              clear c3' own3 hlo HGP
              go_wp2_with fail
              go_quiet (fail)
              have c4 : ∀ nq, CacheAt (w3.drewN nq) b bp N (hits + 1) F := fun nq => c3.keeps (S := fun _ => False) ((Keeps.refl _ _).drewN nq) (fun h => h) (fun h => h)
              go_wp2_with (go_at_call 21; refine (hits_spec _ (c4 _)).mono ?_; rintro e w' ⟨rfl, rfl⟩)
              go_roundw
              case rel => exact ⟨k + 1, n, hits + 1, _, _, by omega, by go_num, rfl, ⟨by omega, by omega, by omega, c4 _, Hlink.out, ownsRow_keeps Hown.out ((Keeps.refl (fun _ => False) _).drewN _) (fun i h => h.elim), below_drewN bel3 _⟩, by show _ ≤ w3.heap.size; omega⟩
              case measure => simp [intOf]; omega
            | none =>
              have c3 : CacheAt w3 b bp N hits F := by rw [hlo] at c3'; exact c3'
              have c4 : ∀ nq, CacheAt (w3.drewN nq) b bp N hits F := fun nq => c3.keeps (S := fun _ => False) ((Keeps.refl _ _).drewN nq) (fun h => h) (fun h => h)
              have Hown := Lib.hid own3
              clear c3' own3 HGP
              rcases Nat.eq_zero_or_pos n with rfl | hpos
              · clear hlo
                go_wp2_with fail
                go_quiet (fail)
                go_wp2_with (go_at_call 21; refine (hits_spec _ (c4 _)).mono ?_; rintro e w' ⟨rfl, rfl⟩)
                go_roundw
                case rel => exact ⟨k + 1, 0, hits, _, _, by omega, by go_num, rfl, ⟨by omega, by omega, by omega, c4 _, Hlink.out, ownsRow_keeps Hown.out ((Keeps.refl (fun _ => False) _).drewN _) (fun i h => h.elim), below_drewN bel3 _⟩, by show _ ≤ w3.heap.size; omega⟩
                case measure => simp [intOf]; omega
              · obtain ⟨n', rfl⟩ : ∃ n', n = n' + 1 := ⟨n - 1, by omega⟩
                have hne := look_none (slK N) A (k0, k1, k2, k3) n' hlo
                obtain ⟨ao', cap', hv, _, _, hr'⟩ := PutOwn.form Hown.out
                cases hv
                obtain ⟨g, rfl, _, _, hrow⟩ := hr' (by omega)
                obtain ⟨s0, s1, s2, s3, _⟩ := hrow n' (by omega)
                clear hr' hrow hlo
                obtain ⟨⟨⟨a0, a1, a2, a3⟩, y⟩, hAn⟩ : ∃ p, p = A n' := ⟨_, rfl⟩
                rw [← hAn] at s0 s1 s2 s3 hne
                simp only [] at s0 s1 s2 s3 hne
                have heq := fun W => arr4_eql a0 a1 a2 a3 k0 k1 k2 k3 W
                rw [decide_eq_false hne] at heq
                have hidx : IntKind.i64.wrap (((n' + 1 : Nat) : Int) - 1) = n' := IntWalk.i64_in _ (by omega) |>.trans (by omega)
                clear hAn hne
                go_wp2_with fail
                go_quiet (fail)
                go_wp2_with (go_at_call 21; refine (hits_spec _ (c4 _)).mono ?_; rintro e w' ⟨rfl, rfl⟩)
                go_roundw
                case rel => exact ⟨k + 1, n' + 1, hits, _, _, by omega, by go_num, rfl, ⟨by omega, by omega, by omega, c4 _, Hlink.out, ownsRow_keeps Hown.out ((Keeps.refl (fun _ => False) _).drewN _) (fun i h => h.elim), below_drewN bel3 _⟩, by show _ ≤ w3.heap.size; omega⟩
                case measure => simp [intOf]; omega
        · subst hr5
          go_wp2_with fail
          refine (clear_spec _ (hca2 _ _)).mono ?_
          rintro e w2 ⟨rfl, kp2, c2'⟩
          have bel2 : Below w.heap.size w w2 := Hbel.out.trans ((((Keeps.refl (fun i => i = bp) wr).alloc _).alloc _ |>.trans kp2).below hwz0 (fun i hi h => by omega))
          have hz3 : wr.heap.size ≤ w2.heap.size := by have := kp2.size; simp at this; omega
          clear kp2
          go_wp2_with (go_at_call 21; refine (hits_spec _ c2').mono ?_; rintro e w' ⟨rfl, rfl⟩)
          go_roundw
          case rel => exact ⟨k + 1, 0, hits, A, _, by omega, by go_num, rfl, ⟨by omega, by omega, by omega, c2', fun _ => rfl, World.ownsRow_nil _ _ _ _, bel2⟩, by omega⟩
          case measure => simp [intOf]; omega
      · obtain rfl : k = m := by omega
        go_wp2_with (first | (go_at_call 16; refine (put_nil _ _ _ _ _ _).mono ?_; rintro e w' ⟨rfl, rfl⟩) | (go_at_call 20; refine (clear_nil _).mono ?_; rintro e w' ⟨rfl, rfl⟩) | (go_at_call 17; refine (get_nil _ _ _ _ _).mono ?_; rintro e w4 ⟨rfl, hb4⟩) | (go_at_call 21; refine (hits_nil _).mono ?_; rintro e w' ⟨rfl, rfl⟩) | (go_at_call 15; refine (size_nil _).mono ?_; rintro e w' ⟨rfl, rfl⟩) | (go_at_call 18; refine (lives15_any _).mono ?_; rintro e w5 ⟨rfl, hb5⟩))
        go_ret
        exact ⟨rfl, (hbel.trans (hb4.mono hwz0)).trans (hb5.mono (by have := hb4.size; omega))⟩
end Go.Proofs.Ytmljmpjpdgijlaa
