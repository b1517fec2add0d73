/-
  Diagrams made of one another in any way: the walk.
-/
import Derived.Test.YtloidoekmicloaaItePlayWalk
import Derived.Test.YtloidoekmicloaaMA
set_option linter.unusedVariables false
set_option linter.unusedSimpArgs false
set_option linter.unnecessarySimpa false
namespace Go.Proofs.Ytloidoekmicloaa
open Go.ChangeShapes Go.WideShapes Go.ChangeAt Go.RowKit Go.Deep NodePlain
theorem own_new {w : World} {b : Nat} {t : TypeId} {xs : List Value} (h : w.heap[b]? = some (.cells xs.toArray t (0, 0))) (h0 : xs.length ≤ maxLen) : w.ownsRow 0 t 1 (.slice (some ⟨b, 0, none⟩) xs.length xs.length) xs.length xs := by
  refine ⟨by simp, .inr ⟨b, xs.length, xs.toArray, rfl, Nat.zero_le _, h, Nat.le_refl _, h0, by simp, ?_⟩⟩
  simp
def playTo (V B : Int) (k : Nat) (os : List OpR) (j : Nat) : PlS := (os.take j).foldl (playStep V B k) play0
theorem playTo_succ {V B : Int} {k : Nat} {os : List OpR} {j : Nat} {o : OpR} (h : os[j]? = some o) : playTo V B k os (j + 1) = playStep V B k (playTo V B k os j) o := by
  unfold playTo
  rw [List.take_add_one, h, Option.toList_some, List.foldl_append]
  rfl
theorem pinv_to {V B : Int} (hV0 : 0 ≤ V) (hV : V ≤ 8) {k : Nat} {os : List OpR} : ∀ j, j ≤ os.length → PInv V j (playTo V B k os j)
  | 0, _ => pinv0 V
  | j + 1, hj => by
    rw [playTo_succ (List.getElem?_eq_getElem (by omega))]
    exact pinv_step hV0 hV (pinv_to hV0 hV j (by omega)) _
def PlayPost (V B : Int) (k m : Nat) (os : List OpR) (db : Nat) (Fp : Nat → Prop) (W : World) (s : PlS) (e : Ending) (W' : World) : Prop :=
  ∃ lv rv bs Fp', e = .returned (.tuple #[lv, rv, .int .i64 s.calls]) ∧ Hid (Pl W.heap.size W' db V B m s.st s.calls Fp' s.l lv s.Rs rv bs ∧ Mv W W' Fp Fp')
set_option maxRecDepth 100000
set_option maxHeartbeats 40000000
theorem play_spec {W : World} {db : Nat} {V B : Int} {Fp : Nat → Prop} (k : Nat) (hk : k ≤ 6) (hV : V = k) (m : Nat) (hm : 2 ^ k = m) (h : Bd W db V B st0 0 Fp) {ao : Option Addr} {n cap : Nat} {os : List OpR} (hO : OpRow W ao os) (hos : os.length = n) (hcap : n ≤ cap) (hoF : 0 < os.length → ∀ b off, ao = some ⟨b, off, none⟩ → ¬ Fp b) :
    Calls Try.prog 8 #[.pointer (some ⟨db, 0, none⟩), .int .i64 k, .slice ao n cap] W (PlayPost V B k m os db Fp W (playM V B k os)) := by
  have hV0 : 0 ≤ V := by omega
  have hV6 : V ≤ 8 := by omega
  have hm64 : m ≤ 64 := by rw [← hm]; exact Nat.le_trans (Nat.pow_le_pow_right (by omega) hk) (by decide)
  have HALL : Hid (∀ W' so, Calls Try.prog 26 #[.int .i64 k, .bool so] W' (RowPost m (fun _ => so) W')) := fun W' so => all_row W' k hk m hm so
  have HLIT : Hid (∀ W' (v : Nat), v ≤ 7 → Calls Try.prog 28 #[.int .i64 k, .int .i64 v] W' (RowPost m (fun i => decide (v < k) && i.testBit v) W')) := fun W' v hv => lit_row W' k hk m hm v hv
  have HINV : Hid (∀ j, j ≤ os.length → PInv V j (playTo V B k os j)) := fun j hj => pinv_to hV0 hV6 j hj
  have HB := Lib.hid h
  have HO := Lib.hid hO
  have HOF := Lib.hid hoF
  clear h hO hoF hm hV
  go_enter Try.func8, Try.ntmps8
  go_upto_region 2 with fail
  have ha1 := (MapKept.heap_alloc W (.cells #[.int .i64 0, .int .i64 1] 3)).1
  have hk1 : Keeps (fun _ => False) W (W.alloc (.cells #[.int .i64 0, .int .i64 1] 3)) := (Keeps.refl _ _).alloc _
  have hs1 : (W.alloc (.cells #[.int .i64 0, .int .i64 1] 3)).heap.size = W.heap.size + 1 := by simp
  go_wp2_with fail
  refine (HALL.out _ false).mono ?_
  rintro e wA ⟨b0, rfl, hb0⟩
  go_wp2_with fail
  refine (HALL.out _ true).mono ?_
  rintro e wB ⟨b1, rfl, hb1⟩
  have HST : Hid (∀ w4, w4 = wB.alloc (.cells #[.slice (some ⟨b0, 0, none⟩) m m, .slice (some ⟨b1, 0, none⟩) m m] 35) → Pl W.heap.size w4 db V B m st0 0 Fp [0, 1] (.slice (some ⟨W.heap.size, 0, none⟩) 2 2) [fun _ => false, fun _ => true] (.slice (some ⟨wB.heap.size, 0, none⟩) 2 2) [b0, b1] ∧ Mv W w4 Fp Fp) := by
    rintro w4 rfl
    obtain ⟨q1, q2, q3⟩ := hb0.out
    obtain ⟨r1, r2, r3⟩ := hb1.out
    have ha4 := (MapKept.heap_alloc wB (.cells #[.slice (some ⟨b0, 0, none⟩) m m, .slice (some ⟨b1, 0, none⟩) m m] 35)).1
    have hk4 : Keeps (fun _ => False) wB (wB.alloc (.cells #[.slice (some ⟨b0, 0, none⟩) m m, .slice (some ⟨b1, 0, none⟩) m m] 35)) := (Keeps.refl _ _).alloc _
    have kAB := q2.trans (r2.trans hk4)
    have kall := hk1.trans kAB
    have hlt := HB.out.lt
    have sA := q2.size
    have sB := r2.size
    rw [hs1] at q1 sA
    have l0 := lt_of_heap q3
    refine ⟨⟨HB.out.quiet kall, own_new (xs := [.int .i64 0, .int .i64 1]) ((kAB.block _ (lt_of_heap ha1) (fun x => x)).trans ha1) (by unfold maxLen; simp), own_new (xs := [.slice (some ⟨b0, 0, none⟩) m m, .slice (some ⟨b1, 0, none⟩) m m]) ha4 (by unfold maxLen; simp), rfl, rfl, fun i b R h1 h2 => ?_, ?_, ?_, ?_, ?_⟩, Mv.quiet kall⟩
    · match i, h1, h2 with
      | 0, h1, h2 =>
        simp only [List.getElem?_cons_zero, Option.some.injEq] at h1 h2
        subst h1 h2
        exact ⟨(q3.keeps r2 (fun x => x)).keeps hk4 (fun x => x), fun hf => by have := hlt _ hf; omega⟩
      | 1, h1, h2 =>
        simp only [List.getElem?_cons_succ, List.getElem?_cons_zero, Option.some.injEq] at h1 h2
        subst h1 h2
        exact ⟨r3.keeps hk4 (fun x => x), fun hf => by have := hlt _ hf; omega⟩
      | i + 2, h1, h2 => simp at h1
    · intro x hx hf
      simp only [Value.ownBlock, Option.some.injEq] at hx
      have := hlt _ hf; omega
    · intro x hx hf
      simp only [Value.ownBlock, Option.some.injEq] at hx
      have := hlt _ hf; omega
    · intro x hx
      simp only [Value.ownBlock, Option.some.injEq] at hx
      omega
    · intro x hx
      simp only [Value.ownBlock, Option.some.injEq] at hx
      omega
  clear hb0 hb1 ha1 hk1 hs1 HB HALL
  go_wp2_with fail
  go_loopg [9, 10, 11, 31] n (fun g lv rv c t wy => ∃ (j : Nat) (bs : List Nat) (Fy : Nat → Prop), j ≤ n ∧ j ≤ 30 ∧ g = n - j ∧ c = .int .i64 (playTo V B k os j).calls ∧ t = .int .i64 j ∧ Hid (Pl W.heap.size wy db V B m (playTo V B k os j).st (playTo V B k os j).calls Fy (playTo V B k os j).l lv (playTo V B k os j).Rs rv bs ∧ Mv W wy Fp Fy))
  case atStart => exact ⟨0, [b0, b1], Fp, Nat.zero_le _, Nat.zero_le _, rfl, rfl, rfl, (HST.out _ rfl).1, (HST.out _ rfl).2⟩
  case round =>
    clear HST
    obtain ⟨j, bs, Fy, hj, hj30, rfl, rfl, rfl, HPL⟩ := hrel
    by_cases hlt : j < n
    · have hjI : (j : Int) < (n : Int) := by omega
      have hex : ∃ o, os[j]? = some o := ⟨_, List.getElem?_eq_getElem (by omega)⟩
      obtain ⟨o, ho⟩ := hex
      have HOW : Hid (OpRow wr ao os) := HO.out.keeps HPL.out.2.keeps (HOF.out (by omega))
      obtain ⟨bb, off, rfl, hbb, hcc⟩ := HOW.out (by omega)
      obtain ⟨⟨w0, w1, w2, w3⟩, c0, c1, c2, c3⟩ := hcc j o ho
      have lbb : bb < wr.heap.size := hbb
      by_cases h30 : j = 30
      · subst h30
        have HEND : Hid (playM V B k os = playTo V B k os 30) := rfl
        clear hcc HOW w0 w1 w2 w3 ho
        go_wp2_with fail
        refine bodyPost_ret (v := .tuple #[u9, u10, .int .i64 ((playTo V B k os 30).calls : Int)]) (by simp [results, Try.results8, go_sem]) rfl ?_
        rw [HEND.out]
        exact ⟨_, _, bs, Fy, rfl, HPL.out.1.quiet ((Keeps.refl _ _).alloc _), HPL.out.2.trans (Mv.quiet ((Keeps.refl _ _).alloc _))⟩
      · have h30' : ((j : Int) == 30) = false := beq_eq_false_iff_ne.2 (by omega)
        obtain ⟨s, hs⟩ : ∃ s, playTo V B k os j = s := ⟨_, rfl⟩
        have HSN : Hid (playTo V B k os (j + 1) = playStep V B k s o) := by
          have e := playTo_succ (V := V) (B := B) (k := k) ho
          rw [hs] at e
          exact e
        have PI := Lib.hid (HINV.out j (by omega))
        clear ho
        simp only [hs] at HPL PI ⊢
        obtain ⟨q, hq⟩ : ∃ q, s.l.length = q := ⟨_, rfl⟩
        have HQ : Hid (q = j + 2) := by
          have e := PI.out.len
          rw [hq] at e
          exact e
        have hq0 : 0 < q := by have := HQ.out; omega
        have hq32 : q ≤ 32 := by have := HQ.out; omega
        have hcl : s.calls ≤ 1000 := by have := PI.out.calls; omega
        obtain ⟨lb, lc, rb, rc, hl1, hr1, le1, le2, nf1, nf2, lt1, lt2, _, _⟩ := HPL.out.1.form (by rw [hq]; exact hq0)
        subst hl1 hr1
        rw [hq] at le1 le2
        simp only [hq]
        obtain ⟨a, ha⟩ : ∃ a, o.a % q = a := ⟨_, rfl⟩
        obtain ⟨b, hb⟩ : ∃ b, o.b % q = b := ⟨_, rfl⟩
        obtain ⟨c, hc⟩ : ∃ c, o.c % q = c := ⟨_, rfl⟩
        have alt : a < q := by rw [← ha]; exact Nat.mod_lt _ hq0
        have blt : b < q := by rw [← hb]; exact Nat.mod_lt _ hq0
        have clt : c < q := by rw [← hc]; exact Nat.mod_lt _ hq0
        have ma : ((o.a : Int)).tmod (q : Int) = (a : Int) := by rw [Int.tmod_eq_emod_of_nonneg (by omega), ← ha]; simp
        have mb : ((o.b : Int)).tmod (q : Int) = (b : Int) := by rw [Int.tmod_eq_emod_of_nonneg (by omega), ← hb]; simp
        have mc : ((o.c : Int)).tmod (q : Int) = (c : Int) := by rw [Int.tmod_eq_emod_of_nonneg (by omega), ← hc]; simp
        have wq : IntKind.u64.wrap (q : Int) = (q : Int) := IntWalk.u64_in _ (by omega)
        have wa : IntKind.i64.wrap (a : Int) = (a : Int) := IntWalk.i64_in _ (by omega)
        have wb : IntKind.i64.wrap (b : Int) = (b : Int) := IntWalk.i64_in _ (by omega)
        have wc : IntKind.i64.wrap (c : Int) = (c : Int) := IntWalk.i64_in _ (by omega)
        have qz : ¬ (q : Int) = 0 := by omega
        have qz2 : ¬ q = 0 := by omega
        have hal := (MapKept.heap_alloc wr (.cells #[.int .u64 o.kind, .int .u64 o.a, .int .u64 o.b, .int .u64 o.c] 61)).1
        have HPX : Hid (Pl W.heap.size (wr.alloc (.cells #[.int .u64 o.kind, .int .u64 o.a, .int .u64 o.b, .int .u64 o.c] 61)) db V B m s.st s.calls Fy s.l (.slice (some ⟨lb, 0, none⟩) s.l.length lc) s.Rs (.slice (some ⟨rb, 0, none⟩) s.l.length rc) bs ∧ Mv W (wr.alloc (.cells #[.int .u64 o.kind, .int .u64 o.a, .int .u64 o.b, .int .u64 o.c] 61)) Fp Fy) := ⟨HPL.out.1.quiet ((Keeps.refl _ _).alloc _), HPL.out.2.trans (Mv.quiet ((Keeps.refl _ _).alloc _))⟩
        rw [hq] at HPX
        clear hcc HOW
        go_upto_region 8 with fail
        clear c0 c1 c2 c3 HPL hbb lbb
        obtain ⟨wX, hwX⟩ : ∃ wX, (wr.alloc (.cells #[.int .u64 o.kind, .int .u64 o.a, .int .u64 o.b, .int .u64 o.c] 61)) = wX := ⟨_, rfl⟩
        simp only [hwX] at hal HPX ⊢
        clear hwX
        have x0 := cell_of_heap hal 0
        have x1 := cell_of_heap hal 1
        have x2 := cell_of_heap hal 2
        have x3 := cell_of_heap hal 3
        simp only [List.getElem?_toArray, List.getElem?_cons_zero, List.getElem?_cons_succ] at x0 x1 x2 x3
        have H8 : (fun w' => w'.cell? ⟨wr.heap.size, 1, none⟩ = some (.int .u64 o.a) ∧ w'.cell? ⟨wr.heap.size, 2, none⟩ = some (.int .u64 o.b) ∧ w'.cell? ⟨wr.heap.size, 3, none⟩ = some (.int .u64 o.c)) wX.drew := ⟨x1, x2, x3⟩
        refine wp_region_noPanic ?_
        refine wp_region_held_drew (S := fun w' => w'.cell? ⟨wr.heap.size, 1, none⟩ = some (.int .u64 o.a) ∧ w'.cell? ⟨wr.heap.size, 2, none⟩ = some (.int .u64 o.b) ∧ w'.cell? ⟨wr.heap.size, 3, none⟩ = some (.int .u64 o.c)) (by kernel_rfl) H8 (fun hHeld => ?_)
        refine wpAnyH_take_at (i := 0) (v := ?v0e) rfl (by kernel_rfl) (by kernel_rfl) (by kernel_rfl) (fun _ _ _ h => h) (Or.inl ⟨by rfl, ?y0e⟩) hHeld ?r0e
        case y0e => (intro w hSw; (try dsimp only at hSw); go_simp; first | done | with_reducible rfl)
        (try simp only [Act.put, List.setIfInBounds_toArray, List.set_cons_zero, List.set_cons_succ])
        refine wpAnyH_take_at (i := 1) (v := ?v1e) rfl (by kernel_rfl) (by kernel_rfl) (by kernel_rfl) (fun _ _ _ h => h) (Or.inl ⟨by rfl, ?y1e⟩) hHeld ?r1e
        case y1e => (intro w hSw; (try dsimp only at hSw); go_simp; first | done | with_reducible rfl)
        (try simp only [Act.put, List.setIfInBounds_toArray, List.set_cons_zero, List.set_cons_succ])
        refine wpAnyH_take_at (i := 2) (v := ?v2e) rfl (by kernel_rfl) (by kernel_rfl) (by kernel_rfl) (fun _ _ _ h => h) (Or.inl ⟨by rfl, ?y2e⟩) hHeld ?r2e
        case y2e => (intro w hSw; (try dsimp only at hSw); go_simp; first | done | with_reducible rfl)
        (try simp only [Act.put, List.setIfInBounds_toArray, List.set_cons_zero, List.set_cons_succ])
        refine wpAnyH_take_at (i := 3) (v := ?v3e) rfl (by kernel_rfl) (by kernel_rfl) (by kernel_rfl) (fun _ _ _ h => h) (Or.inl ⟨by rfl, ?y3e⟩) hHeld ?r3e
        case y3e => (intro w hSw; (try dsimp only at hSw); go_simp; first | done | with_reducible rfl)
        (try simp only [Act.put, List.setIfInBounds_toArray, List.set_cons_zero, List.set_cons_succ])
        refine wpAnyH_take_at (i := 4) (v := ?v4e) rfl (by kernel_rfl) (by kernel_rfl) (by kernel_rfl) (fun _ _ _ h => h) (Or.inl ⟨by rfl, ?y4e⟩) hHeld ?r4e
        case y4e => (intro w hSw; (try dsimp only at hSw); go_simp; first | done | with_reducible rfl)
        (try simp only [Act.put, List.setIfInBounds_toArray, List.set_cons_zero, List.set_cons_succ])
        refine wpAnyH_take_at (i := 5) (v := ?v5e) rfl (by kernel_rfl) (by kernel_rfl) (by kernel_rfl) (fun _ _ _ h => h) (Or.inl ⟨by rfl, ?y5e⟩) hHeld ?r5e
        case y5e => (intro w hSw; (try dsimp only at hSw); go_simp; first | done | with_reducible rfl)
        (try simp only [Act.put, List.setIfInBounds_toArray, List.set_cons_zero, List.set_cons_succ])
        refine wpAnyH_take_at (i := 6) (v := ?v6e) rfl (by kernel_rfl) (by kernel_rfl) (by kernel_rfl) (fun _ _ _ h => h) (Or.inl ⟨by rfl, ?y6e⟩) hHeld ?r6e
        case y6e => (intro w hSw; (try dsimp only at hSw); go_simp; first | done | with_reducible rfl)
        (try simp only [Act.put, List.setIfInBounds_toArray, List.set_cons_zero, List.set_cons_succ])
        refine wpAnyH_take_at (i := 7) (v := ?v7e) rfl (by kernel_rfl) (by kernel_rfl) (by kernel_rfl) (fun _ _ _ h => h) (Or.inl ⟨by rfl, ?y7e⟩) hHeld ?r7e
        case y7e => (intro w hSw; (try dsimp only at hSw); go_simp; first | done | with_reducible rfl)
        (try simp only [Act.put, List.setIfInBounds_toArray, List.set_cons_zero, List.set_cons_succ])
        refine wpAnyH_take_at (i := 8) (v := ?v8e) rfl (by kernel_rfl) (by kernel_rfl) (by kernel_rfl) (fun _ _ _ h => h) (Or.inl ⟨by rfl, ?y8e⟩) hHeld ?r8e
        case y8e => (intro w hSw; (try dsimp only at hSw); go_simp; first | done | with_reducible rfl)
        (try simp only [Act.put, List.setIfInBounds_toArray, List.set_cons_zero, List.set_cons_succ])
        refine wpAnyH_take_at (i := 9) (v := ?v9e) rfl (by kernel_rfl) (by kernel_rfl) (by kernel_rfl) (fun _ _ _ h => h) (Or.inl ⟨by rfl, ?y9e⟩) hHeld ?r9e
        case y9e => (intro w hSw; (try dsimp only at hSw); go_simp; first | done | with_reducible rfl)
        (try simp only [Act.put, List.setIfInBounds_toArray, List.set_cons_zero, List.set_cons_succ])
        refine wpAnyH_take_at (i := 10) (v := ?v10e) rfl (by kernel_rfl) (by kernel_rfl) (by kernel_rfl) (fun _ _ _ h => h) (Or.inl ⟨by rfl, ?y10e⟩) hHeld ?r10e
        case y10e => (intro w hSw; (try dsimp only at hSw); go_simp; first | done | with_reducible rfl)
        (try simp only [Act.put, List.setIfInBounds_toArray, List.set_cons_zero, List.set_cons_succ])
        refine wpAnyH_take_at (i := 11) (v := ?v11e) rfl (by kernel_rfl) (by kernel_rfl) (by kernel_rfl) (fun _ _ _ h => h) (Or.inl ⟨by rfl, ?y11e⟩) hHeld ?r11e
        case y11e => (intro w hSw; (try dsimp only at hSw); go_simp; first | done | with_reducible rfl)
        (try simp only [Act.put, List.setIfInBounds_toArray, List.set_cons_zero, List.set_cons_succ])
        refine wpAnyH_take_at (i := 12) (v := ?v12e) rfl (by kernel_rfl) (by kernel_rfl) (by kernel_rfl) (fun _ _ _ h => h) (Or.inl ⟨by rfl, ?y12e⟩) hHeld ?r12e
        case y12e => (intro w hSw; (try dsimp only at hSw); go_simp; first | done | with_reducible rfl)
        (try simp only [Act.put, List.setIfInBounds_toArray, List.set_cons_zero, List.set_cons_succ])
        refine wpAnyH_take_at (i := 13) (v := ?v13e) rfl (by kernel_rfl) (by kernel_rfl) (by kernel_rfl) (fun _ _ _ h => h) (Or.inl ⟨by rfl, ?y13e⟩) hHeld ?r13e
        case y13e => (intro w hSw; (try dsimp only at hSw); go_simp; first | done | with_reducible rfl)
        (try simp only [Act.put, List.setIfInBounds_toArray, List.set_cons_zero, List.set_cons_succ])
        refine wpAnyH_take_at (i := 14) (v := ?v14e) rfl (by kernel_rfl) (by kernel_rfl) (by kernel_rfl) (fun _ _ _ h => h) (Or.inl ⟨by rfl, ?y14e⟩) hHeld ?r14e
        case y14e => (intro w hSw; (try dsimp only at hSw); go_simp; first | done | with_reducible rfl)
        (try simp only [Act.put, List.setIfInBounds_toArray, List.set_cons_zero, List.set_cons_succ])
        refine wpAnyH_take_at (i := 15) (v := ?v15e) rfl (by kernel_rfl) (by kernel_rfl) (by kernel_rfl) (fun _ _ _ h => h) (Or.inl ⟨by rfl, ?y15e⟩) hHeld ?r15e
        case y15e => (intro w hSw; (try dsimp only at hSw); go_simp; first | done | with_reducible rfl)
        (try simp only [Act.put, List.setIfInBounds_toArray, List.set_cons_zero, List.set_cons_succ])
        refine wpAnyH_take_at (i := 16) (v := ?v16e) rfl (by kernel_rfl) (by kernel_rfl) (by kernel_rfl) (fun _ _ _ h => h) (Or.inl ⟨by rfl, ?y16e⟩) hHeld ?r16e
        case y16e => (intro w hSw; (try dsimp only at hSw); go_simp; first | done | with_reducible rfl)
        (try simp only [Act.put, List.setIfInBounds_toArray, List.set_cons_zero, List.set_cons_succ])
        refine wpAnyH_take_at (i := 17) (v := ?v17e) rfl (by kernel_rfl) (by kernel_rfl) (by kernel_rfl) (fun _ _ _ h => h) (Or.inl ⟨by rfl, ?y17e⟩) hHeld ?r17e
        case y17e => (intro w hSw; (try dsimp only at hSw); go_simp; first | done | with_reducible rfl)
        (try simp only [Act.put, List.setIfInBounds_toArray, List.set_cons_zero, List.set_cons_succ])
        refine wpAnyH_take_at (i := 18) (v := ?v18e) rfl (by kernel_rfl) (by kernel_rfl) (by kernel_rfl) (fun _ _ _ h => h) (Or.inl ⟨by rfl, ?y18e⟩) hHeld ?r18e
        case y18e => (intro w hSw; (try dsimp only at hSw); go_simp; first | done | with_reducible rfl)
        (try simp only [Act.put, List.setIfInBounds_toArray, List.set_cons_zero, List.set_cons_succ])
        refine wpAnyH_take_at (i := 19) (v := ?v19e) rfl (by kernel_rfl) (by kernel_rfl) (by kernel_rfl) (fun _ _ _ h => h) (Or.inl ⟨by rfl, ?y19e⟩) hHeld ?r19e
        case y19e => (intro w hSw; (try dsimp only at hSw); go_simp; first | done | with_reducible rfl)
        (try simp only [Act.put, List.setIfInBounds_toArray, List.set_cons_zero, List.set_cons_succ])
        refine wpAnyH_take_at (i := 20) (v := ?v20e) rfl (by kernel_rfl) (by kernel_rfl) (by kernel_rfl) (fun _ _ _ h => h) (Or.inl ⟨by rfl, ?y20e⟩) hHeld ?r20e
        case y20e => (intro w hSw; (try dsimp only at hSw); go_simp; first | done | with_reducible rfl)
        (try simp only [Act.put, List.setIfInBounds_toArray, List.set_cons_zero, List.set_cons_succ])
        refine wpAnyH_take_at (i := 21) (v := ?v21e) rfl (by kernel_rfl) (by kernel_rfl) (by kernel_rfl) (fun _ _ _ h => h) (Or.inl ⟨by rfl, ?y21e⟩) hHeld ?r21e
        case y21e => (intro w hSw; (try dsimp only at hSw); go_simp; first | done | with_reducible rfl)
        (try simp only [Act.put, List.setIfInBounds_toArray, List.set_cons_zero, List.set_cons_succ])
        refine wpAnyH_take_at (i := 22) (v := ?v22e) rfl (by kernel_rfl) (by kernel_rfl) (by kernel_rfl) (fun _ _ _ h => h) (Or.inl ⟨by rfl, ?y22e⟩) hHeld ?r22e
        case y22e => (intro w hSw; (try dsimp only at hSw); go_simp; first | done | with_reducible rfl)
        (try simp only [Act.put, List.setIfInBounds_toArray, List.set_cons_zero, List.set_cons_succ])
        refine wpAnyH_take_at (i := 23) (v := ?v23e) rfl (by kernel_rfl) (by kernel_rfl) (by kernel_rfl) (fun _ _ _ h => h) (Or.inl ⟨by rfl, ?y23e⟩) hHeld ?r23e
        case y23e => (intro w hSw; (try dsimp only at hSw); go_simp; first | done | with_reducible rfl)
        (try simp only [Act.put, List.setIfInBounds_toArray, List.set_cons_zero, List.set_cons_succ])
        refine wpAnyH_done (by kernel_rfl) ?_ _
        refine NoPanic.normal ?_
        clear hHeld H8 x2 x3 ma mb mc wq wa wb wc
        go_upto_region 9 with fail
        obtain ⟨f0, hf0⟩ : ∃ f, bs[0]? = some f := ⟨_, List.getElem?_eq_getElem (by have := HPX.out.1.l1; omega)⟩
        obtain ⟨f1, hf1⟩ : ∃ f, bs[1]? = some f := ⟨_, List.getElem?_eq_getElem (by have := HPX.out.1.l1; have := HQ.out; omega)⟩
        obtain ⟨fa, hfa⟩ : ∃ f, bs[a]? = some f := ⟨_, List.getElem?_eq_getElem (by have := HPX.out.1.l1; omega)⟩
        obtain ⟨fb, hfb⟩ : ∃ f, bs[b]? = some f := ⟨_, List.getElem?_eq_getElem (by have := HPX.out.1.l1; omega)⟩
        obtain ⟨fc, hfc⟩ : ∃ f, bs[c]? = some f := ⟨_, List.getElem?_eq_getElem (by have := HPX.out.1.l1; omega)⟩
        obtain ⟨x, hx⟩ : ∃ f, s.l[a]? = some f := ⟨_, List.getElem?_eq_getElem (by omega)⟩
        obtain ⟨y, hy⟩ : ∃ f, s.l[b]? = some f := ⟨_, List.getElem?_eq_getElem (by omega)⟩
        obtain ⟨t, ht⟩ : ∃ f, s.l[c]? = some f := ⟨_, List.getElem?_eq_getElem (by omega)⟩
        obtain ⟨R0, h0R⟩ := HPX.out.1.bss hf0
        obtain ⟨R1, h1R⟩ := HPX.out.1.bss hf1
        obtain ⟨X, haR⟩ := HPX.out.1.bss hfa
        obtain ⟨Y, hbR⟩ := HPX.out.1.bss hfb
        obtain ⟨T, hcR⟩ := HPX.out.1.bss hfc
        have HS9 : Hid (∀ W' st' c' Fz, Pl W.heap.size W' db V B m st' c' Fz s.l (.slice (some ⟨lb, 0, none⟩) q lc) s.Rs (.slice (some ⟨rb, 0, none⟩) q rc) bs →
            (W'.cell? ⟨lb, a, none⟩ = some (.int .i64 x) ∧ W'.cell? ⟨lb, b, none⟩ = some (.int .i64 y) ∧ W'.cell? ⟨lb, c, none⟩ = some (.int .i64 t) ∧ W'.cell? ⟨rb, a, none⟩ = some (.slice (some ⟨fa, 0, none⟩) m m) ∧ W'.cell? ⟨rb, b, none⟩ = some (.slice (some ⟨fb, 0, none⟩) m m) ∧ W'.cell? ⟨rb, c, none⟩ = some (.slice (some ⟨fc, 0, none⟩) m m)) ∧
            (W'.cell? ⟨rb, 0, none⟩ = some (.slice (some ⟨f0, 0, none⟩) m m) ∧ W'.cell? ⟨rb, 1, none⟩ = some (.slice (some ⟨f1, 0, none⟩) m m)) ∧ (RowAt W' fa m X ∧ RowAt W' fb m Y ∧ RowAt W' fc m T ∧ RowAt W' f0 m R0 ∧ RowAt W' f1 m R1) ∧ ¬ Fz f1) := fun W' st' c' Fz hp => by
          obtain ⟨lb', lc', rb', rc', e1, e2, _, _, _, _, _, _, q1, q2⟩ := hp.form (by rw [hq]; exact hq0)
          rw [hq] at e1 e2
          simp only [Value.slice.injEq, Option.some.injEq, Addr.mk.injEq, true_and, and_true] at e1 e2
          obtain ⟨rfl, _⟩ := e1
          obtain ⟨rfl, _⟩ := e2
          exact ⟨⟨q1 a x hx, q1 b y hy, q1 c t ht, q2 a fa hfa, q2 b fb hfb, q2 c fc hfc⟩, ⟨q2 0 f0 hf0, q2 1 f1 hf1⟩, ⟨(hp.row a fa X hfa haR).1, (hp.row b fb Y hfb hbR).1, (hp.row c fc T hfc hcR).1, (hp.row 0 f0 R0 hf0 h0R).1, (hp.row 1 f1 R1 hf1 h1R).1⟩, (hp.row 1 f1 R1 hf1 h1R).2⟩
        have HX : Hid (isN s.st.n x = true ∧ isN s.st.n y = true ∧ isN s.st.n t = true) := ⟨PI.out.is x (List.mem_of_getElem? hx), PI.out.is y (List.mem_of_getElem? hy), PI.out.is t (List.mem_of_getElem? ht)⟩
        have HMODEL : Hid (∀ cc, o.kind % 8 = cc → playTo V B k os (j + 1) = ⟨s.l ++ [(stepK V B o.a x y t s.st cc).1], s.Rs ++ [rowK k o.a R0 R1 X Y T cc], (stepK V B o.a x y t s.st cc).2, s.calls + callsK cc⟩) := fun cc hcc => by
          rw [HSN.out]
          have g : ∀ (i : Nat) (v : Int), s.l[i]? = some v → s.l.getD i 0 = v := fun i v h => by rw [List.getD_eq_getElem?_getD, h]; rfl
          have g2 : ∀ (i : Nat) (v : Nat → Bool), s.Rs[i]? = some v → s.Rs.getD i (fun _ => false) = v := fun i v h => by rw [List.getD_eq_getElem?_getD, h]; rfl
          unfold playStep
          simp only [hq, ha, hb, hc, hcc, g _ _ hx, g _ _ hy, g _ _ ht, g2 _ _ haR, g2 _ _ hbR, g2 _ _ hcR, g2 _ _ h0R, g2 _ _ h1R]
        have H9 := (HS9.out _ _ _ _ (HPX.out.1.quiet ((Keeps.refl _ wX).drew.drew))).2.1
        have q1I : (1 : Int) < (q : Int) := by have := HQ.out; omega
        have q1N : 1 < q := by have := HQ.out; omega
        clear hf0 hf1 hfa hfb hfc hx hy ht h0R h1R haR hbR hcR hs HSN
        refine wp_region_noPanic ?_
        refine wp_region_held_drew (S := fun w' => w'.cell? ⟨rb, 0, none⟩ = some (.slice (some ⟨f0, 0, none⟩) m m) ∧ w'.cell? ⟨rb, 1, none⟩ = some (.slice (some ⟨f1, 0, none⟩) m m)) (by kernel_rfl) H9 (fun hHeld => ?_)
        refine wpAnyH_take_at (i := 0) (v := ?v0g) rfl (by kernel_rfl) (by kernel_rfl) (by kernel_rfl) (fun _ _ _ h => h) (Or.inl ⟨by rfl, ?y0g⟩) hHeld ?r0g
        case y0g => (intro w hSw; (try dsimp only at hSw); go_simp; first | done | with_reducible rfl)
        (try simp only [Act.put, List.setIfInBounds_toArray, List.set_cons_zero, List.set_cons_succ])
        refine wpAnyH_take_at (i := 1) (v := ?v1g) rfl (by kernel_rfl) (by kernel_rfl) (by kernel_rfl) (fun _ _ _ h => h) (Or.inl ⟨by rfl, ?y1g⟩) hHeld ?r1g
        case y1g => (intro w hSw; (try dsimp only at hSw); go_simp; first | done | with_reducible rfl)
        (try simp only [Act.put, List.setIfInBounds_toArray, List.set_cons_zero, List.set_cons_succ])
        refine wpAnyH_take_at (i := 2) (v := ?v2g) rfl (by kernel_rfl) (by kernel_rfl) (by kernel_rfl) (fun _ _ _ h => h) (Or.inl ⟨by rfl, ?y2g⟩) hHeld ?r2g
        case y2g => (intro w hSw; (try dsimp only at hSw); go_simp; first | done | with_reducible rfl)
        (try simp only [Act.put, List.setIfInBounds_toArray, List.set_cons_zero, List.set_cons_succ])
        refine wpAnyH_take_at (i := 3) (v := ?v3g) rfl (by kernel_rfl) (by kernel_rfl) (by kernel_rfl) (fun _ _ _ h => h) (Or.inl ⟨by rfl, ?y3g⟩) hHeld ?r3g
        case y3g => (intro w hSw; (try dsimp only at hSw); go_simp; first | done | with_reducible rfl)
        (try simp only [Act.put, List.setIfInBounds_toArray, List.set_cons_zero, List.set_cons_succ])
        refine wpAnyH_take_at (i := 4) (v := ?v4g) rfl (by kernel_rfl) (by kernel_rfl) (by kernel_rfl) (fun _ _ _ h => h) (Or.inl ⟨by rfl, ?y4g⟩) hHeld ?r4g
        case y4g => (intro w hSw; (try dsimp only at hSw); go_simp; first | done | with_reducible rfl)
        (try simp only [Act.put, List.setIfInBounds_toArray, List.set_cons_zero, List.set_cons_succ])
        refine wpAnyH_take_at (i := 5) (v := ?v5g) rfl (by kernel_rfl) (by kernel_rfl) (by kernel_rfl) (fun _ _ _ h => h) (Or.inl ⟨by rfl, ?y5g⟩) hHeld ?r5g
        case y5g => (intro w hSw; (try dsimp only at hSw); go_simp; first | done | with_reducible rfl)
        (try simp only [Act.put, List.setIfInBounds_toArray, List.set_cons_zero, List.set_cons_succ])
        refine wpAnyH_take_at (i := 6) (v := ?v6g) rfl (by kernel_rfl) (by kernel_rfl) (by kernel_rfl) (fun _ _ _ h => h) (Or.inl ⟨by rfl, ?y6g⟩) hHeld ?r6g
        case y6g => (intro w hSw; (try dsimp only at hSw); go_simp; first | done | with_reducible rfl)
        (try simp only [Act.put, List.setIfInBounds_toArray, List.set_cons_zero, List.set_cons_succ])
        refine wpAnyH_take_at (i := 7) (v := ?v7g) rfl (by kernel_rfl) (by kernel_rfl) (by kernel_rfl) (fun _ _ _ h => h) (Or.inl ⟨by rfl, ?y7g⟩) hHeld ?r7g
        case y7g => (intro w hSw; (try dsimp only at hSw); go_simp; first | done | with_reducible rfl)
        (try simp only [Act.put, List.setIfInBounds_toArray, List.set_cons_zero, List.set_cons_succ])
        refine wpAnyH_done (by kernel_rfl) ?_ _
        refine NoPanic.normal ?_
        have HP0 : Hid (Pl W.heap.size wX.drew.drew db V B m s.st s.calls Fy s.l (.slice (some ⟨lb, 0, none⟩) q lc) s.Rs (.slice (some ⟨rb, 0, none⟩) q rc) bs ∧ Mv W wX.drew.drew Fp Fy) := ⟨HPX.out.1.quiet ((Keeps.refl _ wX).drew.drew), HPX.out.2.trans (Mv.quiet ((Keeps.refl _ wX).drew.drew))⟩
        obtain ⟨wY, hwY⟩ : ∃ wY, wX.drew.drew = wY := ⟨_, rfl⟩
        have y0 : wX.drew.drew.cell? ⟨wr.heap.size, 0, none⟩ = some (.int .u64 o.kind) := x0
        have y1 : wX.drew.drew.cell? ⟨wr.heap.size, 1, none⟩ = some (.int .u64 o.a) := x1
        simp only [hwY] at HP0 y0 y1 ⊢
        clear hHeld H9 hwY HPX x0 x1 hal
        obtain ⟨i0, hi0, hz0, hz1, hz2⟩ := info_parts intInfo2
        obtain ⟨i9, hi9, hy0, hy1, hy2⟩ := info_parts sbInfo
        have h16 : o.kind % 8 < 8 := Nat.mod_lt _ (by omega)
        have HIT : Hid (∀ W' F G H bf bg bh, RowAt W' bf m F → RowAt W' bg m G → RowAt W' bh m H → Calls Try.prog 30 #[.slice (some ⟨bf, 0, none⟩) m m, .slice (some ⟨bg, 0, none⟩) m m, .slice (some ⟨bh, 0, none⟩) m m] W' (RowPost m (iteR F G H) W')) := fun W' F G H bf bg bh h1 h2 h3 => ite_row W' hm64 h1 h2 h3
        have hc0 : (0 : Int) ≤ (s.calls : Int) := by omega
        have hc1 : (s.calls : Int) ≤ 100000000 := by omega
        have hj90 : 3 * j ≤ 100000 := by omega
        have hkin : o.kind % 8 = 0 ∨ o.kind % 8 = 1 ∨ o.kind % 8 = 2 ∨ o.kind % 8 = 3 ∨ o.kind % 8 = 4 ∨ o.kind % 8 = 5 ∨ o.kind % 8 = 6 ∨ o.kind % 8 = 7 := by omega
        rcases hkin with h8 | h8 | h8 | h8 | h8 | h8 | h8 | h8
        · as_aux_lemma =>
          have mk : ((o.kind : Int)).tmod 8 = 0 := by rw [Int.tmod_eq_emod_of_nonneg (by omega)]; omega
          have HM := Lib.hid (HMODEL.out 0 h8)
          obtain ⟨v, hv⟩ : ∃ v, o.a % 8 = v := ⟨_, rfl⟩
          have mv : ((o.a : Int)).tmod 8 = (v : Int) := by rw [Int.tmod_eq_emod_of_nonneg (by omega), ← hv]; simp
          have hv7 : v ≤ 7 := by omega
          have wv : IntKind.i64.wrap (v : Int) = (v : Int) := IntWalk.i64_in _ (by omega)
          have hv0I : (0 : Int) ≤ (v : Int) := by omega
          have hv1I : (v : Int) ≤ 100 := by omega
          go_wp2_with fail
          refine (blit_spec HP0.out.1.bd PI.out.wf hj90 hv0I hv1I hc0 hc1).mono ?_
          rintro e wP ⟨rfl, hbP⟩
          obtain ⟨Fz, hbd, hmv⟩ := hbP.out
          have e0 : stepK V B o.a x y t s.st 0 = opG s.st (makeM V B s.st (v : Int) 0 1) := by rw [← hv]; rfl
          rw [← e0] at hbd
          have HPB : Hid (Pl W.heap.size wP db V B m (stepK V B o.a x y t s.st 0).2 ((s.calls : Int) + 1) Fz s.l (.slice (some ⟨lb, 0, none⟩) q lc) s.Rs (.slice (some ⟨rb, 0, none⟩) q rc) bs ∧ Mv W wP Fp Fz) := ⟨HP0.out.1.move hbd hmv, HP0.out.2.trans hmv⟩
          clear hbd hmv hbP HP0
          go_wp2_with fail
          refine (HLIT.out _ v hv7).mono ?_
          rintro e wR ⟨nb, rfl, hnb⟩
          rw [← e0]
          clear mv wv e0
          subst hv
          have HPCnb : Hid (Pl W.heap.size wR db V B m (stepK V B o.a x y t s.st 0).2 ((s.calls : Int) + 1) Fz s.l (.slice (some ⟨lb, 0, none⟩) q lc) s.Rs (.slice (some ⟨rb, 0, none⟩) q rc) bs ∧ Mv W wR Fp Fz) := ⟨HPB.out.1.quiet hnb.out.2.1, HPB.out.2.trans (Mv.quiet hnb.out.2.1)⟩
          have HPZ : Hid (Pl W.heap.size wR db V B m (stepK V B o.a x y t s.st 0).2 ((s.calls : Int) + 1) Fz s.l (.slice (some ⟨lb, 0, none⟩) q lc) s.Rs (.slice (some ⟨rb, 0, none⟩) q rc) bs ∧ Mv W wR Fp Fz ∧ RowAt wR nb m (rowK k o.a R0 R1 X Y T 0) ∧ ¬ Fz nb) := ⟨HPCnb.out.1, HPCnb.out.2, hnb.out.2.2, fun hf => by have := HPB.out.1.bd.lt nb hf; have := hnb.out.1; omega⟩
          obtain ⟨wZ, hwZ⟩ : ∃ wZ, wR = wZ := ⟨_, rfl⟩
          simp only [hwZ] at HPZ ⊢
          obtain ⟨nv, hnv⟩ : ∃ nv, (stepK V B o.a x y t s.st 0).1 = nv := ⟨_, rfl⟩
          have hnv2 : (stepK V B o.a x y t s.st 0).1 = nv := hnv
          rw [hnv2]
          rw [hnv] at HM
          clear hnv hnv2 hwZ
          clear y1
          have HL1 : Hid ((wZ.alloc (.cells #[.int .i64 nv] 3)).ownsRow 0 3 1 (.slice (some ⟨lb, 0, none⟩) q lc) q (numCells s.l)) := by
            have e := (HPZ.out.1.quiet ((Keeps.refl _ wZ).alloc (.cells #[.int .i64 nv] 3))).lo
            rw [hq] at e
            exact e
          have HL2 : Hid (∀ wC wD, (wZ.alloc (.cells #[.int .i64 nv] 3)).grownBy wC (Value.slice (some ⟨lb, 0, none⟩) q lc).ownBlock → Keeps (fun _ => False) wC wD → wD.ownsRow 0 35 1 (.slice (some ⟨rb, 0, none⟩) q rc) q (slCells m bs)) := fun wC wD g k => by
            have e := HPZ.out.1.ro_keep ((Keeps.refl _ wZ).alloc (.cells #[.int .i64 nv] 3)) g k
            rw [HPZ.out.1.l1, hq] at e
            exact e
          have HPUSH : Hid (∀ v1 w1 v2 w2, w1.ownsRow 0 3 1 v1 (q + 1) (numCells s.l ++ [.int .i64 nv]) → (wZ.alloc (.cells #[.int .i64 nv] 3)).grownBy w1 (Value.slice (some ⟨lb, 0, none⟩) q lc).ownBlock → (∀ x, v1.ownBlock = some x → (Value.slice (some ⟨lb, 0, none⟩) q lc).ownBlock = some x ∨ wZ.heap.size + 1 ≤ x) →
              w2.ownsRow 0 35 1 v2 (q + 1) (slCells m bs ++ [.slice (some ⟨nb, 0, none⟩) m m]) → (w1.alloc (.cells #[.slice (some ⟨nb, 0, none⟩) m m] 35)).grownBy w2 (Value.slice (some ⟨rb, 0, none⟩) q rc).ownBlock → (∀ x, v2.ownBlock = some x → (Value.slice (some ⟨rb, 0, none⟩) q rc).ownBlock = some x ∨ w1.heap.size + 1 ≤ x) →
              Pl W.heap.size w2 db V B m (playTo V B k os (j + 1)).st (playTo V B k os (j + 1)).calls Fz (playTo V B k os (j + 1)).l v1 (playTo V B k os (j + 1)).Rs v2 (bs ++ [nb]) ∧ Mv W w2 Fp Fz) := fun v1 w1 v2 w2 o1 g1 z1 o2 g2 z2 => by
            obtain ⟨p1, p2, p3, p4⟩ := HPZ.out
            have hl := p1.l1
            rw [hq] at hl
            obtain ⟨q1, S, q2, q3⟩ := p1.push p2.keeps.size p3 p4 ((Keeps.refl _ wZ).alloc (.cells #[.int .i64 nv] 3)) (by rw [hq]; exact o1) g1 (fun x hx => (z1 x hx).imp_right (fun h => by simpa using h)) ((Keeps.refl _ w1).alloc (.cells #[.slice (some ⟨nb, 0, none⟩) m m] 35)) (by rw [hl]; exact o2) g2 (fun x hx => (z2 x hx).imp_right (fun h => by simpa using h))
            refine ⟨?_, p2.old q2 (fun k hk => (q3 k hk).2)⟩
            rw [HM.out]
            exact q1
          have HCALLS : Hid ((((playTo V B k os (j + 1)).calls : Nat) : Int) = (s.calls : Int) + 1) := by
            rw [HM.out]
            show ((s.calls + 1 : Nat) : Int) = _
            omega
          have HNB := Lib.hid HPZ.out.2.2
          clear HPZ HM HMODEL HS9 HX HIT
          go_upto_region 29 with fail
          go_wp2_with (at_builtin; refine wpList_append_fp _ rfl _ _ 27 rfl 3 i0 _ 1 8 Try.underlying27 hi0 hz0 hz1 hz2 rfl (by decide) _ q (numCells s.l) rfl HL1.out ⟨wZ.heap.size, 0, none⟩ 1 1 [.int .i64 nv] rfl rfl (cells_new wZ _ _) (by intro u hu; simp only [List.mem_cons, List.not_mem_nil, or_false] at hu; subst hu; rfl) (by omega) (by unfold maxLen; omega) (by omega) ?_)
          intro v1 w1 ho1 hg1 hf1
          have HL3 := Lib.hid (HL2.out w1 (w1.alloc (.cells #[.slice (some ⟨nb, 0, none⟩) m m] 35)) hg1 ((Keeps.refl _ _).alloc _))
          have HPU2 := Lib.hid (fun v2 w2 => HPUSH.out v1 w1 v2 w2 ho1 hg1 hf1)
          clear HL1 HL2 HPUSH ho1 hg1 hf1
          go_wp2_with (at_builtin; refine wpList_append_fp _ rfl _ _ 28 rfl 35 i9 _ 1 24 Try.underlying28 hi9 hy0 hy1 hy2 rfl (by decide) _ q (slCells m bs) rfl HL3.out ⟨w1.heap.size, 0, none⟩ 1 1 [.slice (some ⟨nb, 0, none⟩) m m] rfl rfl (cells_new w1 _ _) (by intro u hu; simp only [List.mem_cons, List.not_mem_nil, or_false] at hu; subst hu; rfl) (by omega) (by unfold maxLen; omega) (by omega) ?_)
          intro v2 w2 ho2 hg2 hf2
          have HREL := Lib.hid (HPU2.out v2 w2 ho2 hg2 hf2)
          clear HPU2 HL3 ho2 hg2 hf2
          go_wp2_with fail
          go_roundg (n - (j + 1))
          case measure => omega
          case rel => exact ⟨j + 1, bs ++ [nb], Fz, by omega, by omega, rfl, congrArg (Value.int .i64) HCALLS.out.symm, by go_num, HREL.out.1, HREL.out.2⟩
        · as_aux_lemma =>
          have mk : ((o.kind : Int)).tmod 8 = 1 := by rw [Int.tmod_eq_emod_of_nonneg (by omega)]; omega
          have HM := Lib.hid (HMODEL.out 1 h8)
          go_upto_region 17 with fail
          have H17 := (HS9.out _ _ _ _ (HP0.out.1.quiet ((Keeps.refl _ wY).drew))).1
          have HPA : Hid (Pl W.heap.size wY.drew db V B m s.st s.calls Fy s.l (.slice (some ⟨lb, 0, none⟩) q lc) s.Rs (.slice (some ⟨rb, 0, none⟩) q rc) bs ∧ Mv W wY.drew Fp Fy) := ⟨HP0.out.1.quiet ((Keeps.refl _ wY).drew), HP0.out.2.trans (Mv.quiet ((Keeps.refl _ wY).drew))⟩
          clear HP0 y0 y1 mk
          refine wp_region_noPanic ?_
          refine wp_region_held_drew (S := fun w' => (w'.cell? ⟨lb, a, none⟩ = some (.int .i64 x) ∧ w'.cell? ⟨lb, b, none⟩ = some (.int .i64 y) ∧ w'.cell? ⟨lb, c, none⟩ = some (.int .i64 t) ∧ w'.cell? ⟨rb, a, none⟩ = some (.slice (some ⟨fa, 0, none⟩) m m) ∧ w'.cell? ⟨rb, b, none⟩ = some (.slice (some ⟨fb, 0, none⟩) m m) ∧ w'.cell? ⟨rb, c, none⟩ = some (.slice (some ⟨fc, 0, none⟩) m m))) (by kernel_rfl) H17 (fun hHeld => ?_)
          refine wpAnyH_take_at (i := 0) (v := ?v0k1) rfl (by kernel_rfl) (by kernel_rfl) (by kernel_rfl) (fun _ _ _ h => h) (Or.inl ⟨by rfl, ?y0k1⟩) hHeld ?r0k1
          case y0k1 => (intro w hSw; (try dsimp only at hSw); go_simp; first | done | with_reducible rfl)
          (try simp only [Act.put, List.setIfInBounds_toArray, List.set_cons_zero, List.set_cons_succ])
          refine wpAnyH_take_at (i := 1) (v := ?v1k1) rfl (by kernel_rfl) (by kernel_rfl) (by kernel_rfl) (fun _ _ _ h => h) (Or.inl ⟨by rfl, ?y1k1⟩) hHeld ?r1k1
          case y1k1 => (intro w hSw; (try dsimp only at hSw); go_simp; first | done | with_reducible rfl)
          (try simp only [Act.put, List.setIfInBounds_toArray, List.set_cons_zero, List.set_cons_succ])
          refine wpAnyH_take_at (i := 2) (v := ?v2k1) rfl (by kernel_rfl) (by kernel_rfl) (by kernel_rfl) (fun _ _ _ h => h) (Or.inl ⟨by rfl, ?y2k1⟩) hHeld ?r2k1
          case y2k1 => (intro w hSw; (try dsimp only at hSw); go_simp; first | done | with_reducible rfl)
          (try simp only [Act.put, List.setIfInBounds_toArray, List.set_cons_zero, List.set_cons_succ])
          refine wpAnyH_take_at (i := 3) (v := ?v3k1) rfl (by kernel_rfl) (by kernel_rfl) (by kernel_rfl) (fun _ _ _ h => h) (Or.inl ⟨by rfl, ?y3k1⟩) hHeld ?r3k1
          case y3k1 => (intro w hSw; (try dsimp only at hSw); go_simp; first | done | with_reducible rfl)
          (try simp only [Act.put, List.setIfInBounds_toArray, List.set_cons_zero, List.set_cons_succ])
          refine wpAnyH_take_at (i := 4) (v := ?v4k1) rfl (by kernel_rfl) (by kernel_rfl) (by kernel_rfl) (fun _ _ _ h => h) (Or.inl ⟨by rfl, ?y4k1⟩) hHeld ?r4k1
          case y4k1 => (intro w hSw; (try dsimp only at hSw); go_simp; first | done | with_reducible rfl)
          (try simp only [Act.put, List.setIfInBounds_toArray, List.set_cons_zero, List.set_cons_succ])
          refine wpAnyH_take_at (i := 5) (v := ?v5k1) rfl (by kernel_rfl) (by kernel_rfl) (by kernel_rfl) (fun _ _ _ h => h) (Or.inl ⟨by rfl, ?y5k1⟩) hHeld ?r5k1
          case y5k1 => (intro w hSw; (try dsimp only at hSw); go_simp; first | done | with_reducible rfl)
          (try simp only [Act.put, List.setIfInBounds_toArray, List.set_cons_zero, List.set_cons_succ])
          refine wpAnyH_take_at (i := 6) (v := ?v6k1) rfl (by kernel_rfl) (by kernel_rfl) (by kernel_rfl) (fun _ _ _ h => h) (Or.inl ⟨by rfl, ?y6k1⟩) hHeld ?r6k1
          case y6k1 => (intro w hSw; (try dsimp only at hSw); go_simp; first | done | with_reducible rfl)
          (try simp only [Act.put, List.setIfInBounds_toArray, List.set_cons_zero, List.set_cons_succ])
          refine wpAnyH_take_at (i := 7) (v := ?v7k1) rfl (by kernel_rfl) (by kernel_rfl) (by kernel_rfl) (fun _ _ _ h => h) (Or.inl ⟨by rfl, ?y7k1⟩) hHeld ?r7k1
          case y7k1 => (intro w hSw; (try dsimp only at hSw); go_simp; first | done | with_reducible rfl)
          (try simp only [Act.put, List.setIfInBounds_toArray, List.set_cons_zero, List.set_cons_succ])
          refine wpAnyH_take_at (i := 8) (v := ?v8k1) rfl (by kernel_rfl) (by kernel_rfl) (by kernel_rfl) (fun _ _ _ h => h) (Or.inl ⟨by rfl, ?y8k1⟩) hHeld ?r8k1
          case y8k1 => (intro w hSw; (try dsimp only at hSw); go_simp; first | done | with_reducible rfl)
          (try simp only [Act.put, List.setIfInBounds_toArray, List.set_cons_zero, List.set_cons_succ])
          refine wpAnyH_take_at (i := 9) (v := ?v9k1) rfl (by kernel_rfl) (by kernel_rfl) (by kernel_rfl) (fun _ _ _ h => h) (Or.inl ⟨by rfl, ?y9k1⟩) hHeld ?r9k1
          case y9k1 => (intro w hSw; (try dsimp only at hSw); go_simp; first | done | with_reducible rfl)
          (try simp only [Act.put, List.setIfInBounds_toArray, List.set_cons_zero, List.set_cons_succ])
          refine wpAnyH_take_at (i := 10) (v := ?v10k1) rfl (by kernel_rfl) (by kernel_rfl) (by kernel_rfl) (fun _ _ _ h => h) (Or.inl ⟨by rfl, ?y10k1⟩) hHeld ?r10k1
          case y10k1 => (intro w hSw; (try dsimp only at hSw); go_simp; first | done | with_reducible rfl)
          (try simp only [Act.put, List.setIfInBounds_toArray, List.set_cons_zero, List.set_cons_succ])
          refine wpAnyH_take_at (i := 11) (v := ?v11k1) rfl (by kernel_rfl) (by kernel_rfl) (by kernel_rfl) (fun _ _ _ h => h) (Or.inl ⟨by rfl, ?y11k1⟩) hHeld ?r11k1
          case y11k1 => (intro w hSw; (try dsimp only at hSw); go_simp; first | done | with_reducible rfl)
          (try simp only [Act.put, List.setIfInBounds_toArray, List.set_cons_zero, List.set_cons_succ])
          refine wpAnyH_take_at (i := 12) (v := ?v12k1) rfl (by kernel_rfl) (by kernel_rfl) (by kernel_rfl) (fun _ _ _ h => h) (Or.inl ⟨by rfl, ?y12k1⟩) hHeld ?r12k1
          case y12k1 => (intro w hSw; (try dsimp only at hSw); go_simp; first | done | with_reducible rfl)
          (try simp only [Act.put, List.setIfInBounds_toArray, List.set_cons_zero, List.set_cons_succ])
          refine wpAnyH_take_at (i := 14) (v := ?v14k1) rfl (by kernel_rfl) (by kernel_rfl) (by kernel_rfl) (fun _ _ _ h => h) (Or.inl ⟨by rfl, ?y14k1⟩) hHeld ?r14k1
          case y14k1 => (intro w hSw; (try dsimp only at hSw); go_simp; first | done | with_reducible rfl)
          (try simp only [Act.put, List.setIfInBounds_toArray, List.set_cons_zero, List.set_cons_succ])
          refine wpAnyH_take_at (i := 15) (v := ?v15k1) rfl (by kernel_rfl) (by kernel_rfl) (by kernel_rfl) (fun _ _ _ h => h) (Or.inl ⟨by rfl, ?y15k1⟩) hHeld ?r15k1
          case y15k1 => (intro w hSw; (try dsimp only at hSw); go_simp; first | done | with_reducible rfl)
          (try simp only [Act.put, List.setIfInBounds_toArray, List.set_cons_zero, List.set_cons_succ])
          refine wpAnyH_take_at (i := 16) (v := ?v16k1) rfl (by kernel_rfl) (by kernel_rfl) (by kernel_rfl) (fun _ _ _ h => h) (Or.inl ⟨by rfl, ?y16k1⟩) hHeld ?r16k1
          case y16k1 => (intro w hSw; (try dsimp only at hSw); go_simp; first | done | with_reducible rfl)
          (try simp only [Act.put, List.setIfInBounds_toArray, List.set_cons_zero, List.set_cons_succ])
          refine wpAnyH_take_at (i := 17) (v := ?v17k1) rfl (by kernel_rfl) (by kernel_rfl) (by kernel_rfl) (fun _ _ _ h => h) (Or.inl ⟨by rfl, ?y17k1⟩) hHeld ?r17k1
          case y17k1 => (intro w hSw; (try dsimp only at hSw); go_simp; first | done | with_reducible rfl)
          (try simp only [Act.put, List.setIfInBounds_toArray, List.set_cons_zero, List.set_cons_succ])
          refine wpAnyH_take_at (i := 18) (v := ?v18k1) rfl (by kernel_rfl) (by kernel_rfl) (by kernel_rfl) (fun _ _ _ h => h) (Or.inl ⟨by rfl, ?y18k1⟩) hHeld ?r18k1
          case y18k1 => (intro w hSw; (try dsimp only at hSw); go_simp; first | done | with_reducible rfl)
          (try simp only [Act.put, List.setIfInBounds_toArray, List.set_cons_zero, List.set_cons_succ])
          refine wpAnyH_take_at (i := 19) (v := ?v19k1) rfl (by kernel_rfl) (by kernel_rfl) (by kernel_rfl) (fun _ _ _ h => h) (Or.inl ⟨by rfl, ?y19k1⟩) hHeld ?r19k1
          case y19k1 => (intro w hSw; (try dsimp only at hSw); go_simp; first | done | with_reducible rfl)
          (try simp only [Act.put, List.setIfInBounds_toArray, List.set_cons_zero, List.set_cons_succ])
          refine wpAnyH_take_at (i := 20) (v := ?v20k1) rfl (by kernel_rfl) (by kernel_rfl) (by kernel_rfl) (fun _ _ _ h => h) (Or.inl ⟨by rfl, ?y20k1⟩) hHeld ?r20k1
          case y20k1 => (intro w hSw; (try dsimp only at hSw); go_simp; first | done | with_reducible rfl)
          (try simp only [Act.put, List.setIfInBounds_toArray, List.set_cons_zero, List.set_cons_succ])
          refine wpAnyH_take_at (i := 21) (v := ?v21k1) rfl (by kernel_rfl) (by kernel_rfl) (by kernel_rfl) (fun _ _ _ h => h) (Or.inl ⟨by rfl, ?y21k1⟩) hHeld ?r21k1
          case y21k1 => (intro w hSw; (try dsimp only at hSw); go_simp; first | done | with_reducible rfl)
          (try simp only [Act.put, List.setIfInBounds_toArray, List.set_cons_zero, List.set_cons_succ])
          refine wpAnyH_take_at (i := 22) (v := ?v22k1) rfl (by kernel_rfl) (by kernel_rfl) (by kernel_rfl) (fun _ _ _ h => h) (Or.inl ⟨by rfl, ?y22k1⟩) hHeld ?r22k1
          case y22k1 => (intro w hSw; (try dsimp only at hSw); go_simp; first | done | with_reducible rfl)
          (try simp only [Act.put, List.setIfInBounds_toArray, List.set_cons_zero, List.set_cons_succ])
          refine wpAnyH_take_at (i := 23) (v := ?v23k1) rfl (by kernel_rfl) (by kernel_rfl) (by kernel_rfl) (fun _ _ _ h => h) (Or.inl ⟨by rfl, ?y23k1⟩) hHeld ?r23k1
          case y23k1 => (intro w hSw; (try dsimp only at hSw); go_simp; first | done | with_reducible rfl)
          (try simp only [Act.put, List.setIfInBounds_toArray, List.set_cons_zero, List.set_cons_succ])
          refine wpAnyH_take_at (i := 24) (v := ?v24k1) rfl (by kernel_rfl) (by kernel_rfl) (by kernel_rfl) (fun _ _ _ h => h) (Or.inl ⟨by rfl, ?y24k1⟩) hHeld ?r24k1
          case y24k1 => (intro w hSw; (try dsimp only at hSw); go_simp; first | done | with_reducible rfl)
          (try simp only [Act.put, List.setIfInBounds_toArray, List.set_cons_zero, List.set_cons_succ])
          refine wpAnyH_take_at (i := 25) (v := ?v25k1) rfl (by kernel_rfl) (by kernel_rfl) (by kernel_rfl) (fun _ _ _ h => h) (Or.inl ⟨by rfl, ?y25k1⟩) hHeld ?r25k1
          case y25k1 => (intro w hSw; (try dsimp only at hSw); go_simp; first | done | with_reducible rfl)
          (try simp only [Act.put, List.setIfInBounds_toArray, List.set_cons_zero, List.set_cons_succ])
          refine wpAnyH_one (i := 13) (by kernel_rfl) rfl (fun KK hK => ?_)
          go_simp
          refine (bite_spec hV0 hV6 HPA.out.1.bd PI.out.wf hj90 HX.out.1 HX.out.2.1 HX.out.2.2 hc0 hc1).mono ?_
          rintro e wP ⟨rfl, hbP⟩
          go_simp
          obtain ⟨Fz, hbd, hmv⟩ := hbP.out
          have HPB : Hid (Pl W.heap.size wP db V B m (stepK V B o.a x y t s.st 1).2 ((s.calls : Int) + 1) Fz s.l (.slice (some ⟨lb, 0, none⟩) q lc) s.Rs (.slice (some ⟨rb, 0, none⟩) q rc) bs ∧ Mv W wP Fp Fz) := ⟨HPA.out.1.move hbd hmv, HPA.out.2.trans hmv⟩
          have hs6 := (HS9.out _ _ _ _ HPB.out.1).1
          clear hbd hmv hbP
          refine hK.out _ _ ?s13k1 (fun hHeld => ?_)
          case s13k1 => exact hs6
          clear hK KK
          (try simp only [Act.put, List.setIfInBounds_toArray, List.set_cons_zero, List.set_cons_succ])
          refine wpAnyH_one (i := 26) (by kernel_rfl) rfl (fun KK hK => ?_)
          go_simp
          refine (HIT.out _ X Y T fa fb fc (HS9.out _ _ _ _ HPB.out.1).2.2.1.1 (HS9.out _ _ _ _ HPB.out.1).2.2.1.2.1 (HS9.out _ _ _ _ HPB.out.1).2.2.1.2.2.1).mono ?_
          rintro e wR ⟨nb, rfl, hnb⟩
          go_simp
          have HPCnb : Hid (Pl W.heap.size wR db V B m (stepK V B o.a x y t s.st 1).2 ((s.calls : Int) + 1) Fz s.l (.slice (some ⟨lb, 0, none⟩) q lc) s.Rs (.slice (some ⟨rb, 0, none⟩) q rc) bs ∧ Mv W wR Fp Fz) := ⟨HPB.out.1.quiet hnb.out.2.1, HPB.out.2.trans (Mv.quiet hnb.out.2.1)⟩
          have hs6nb := (HS9.out _ _ _ _ HPCnb.out.1).1
          refine hK.out _ _ ?s26k1 (fun hHeld => ?_)
          case s26k1 => exact hs6nb
          clear hK KK
          (try simp only [Act.put, List.setIfInBounds_toArray, List.set_cons_zero, List.set_cons_succ])
          refine wpAnyH_take_at (i := 27) (v := ?v27k1) rfl (by kernel_rfl) (by kernel_rfl) (by kernel_rfl) (fun _ _ _ h => h) (Or.inl ⟨by rfl, ?y27k1⟩) hHeld ?r27k1
          case y27k1 => (intro w hSw; (try dsimp only at hSw); go_simp; first | done | with_reducible rfl)
          (try simp only [Act.put, List.setIfInBounds_toArray, List.set_cons_zero, List.set_cons_succ])
          refine wpAnyH_take_at (i := 28) (v := ?v28k1) rfl (by kernel_rfl) (by kernel_rfl) (by kernel_rfl) (fun _ _ _ h => h) (Or.inl ⟨by rfl, ?y28k1⟩) hHeld ?r28k1
          case y28k1 => (intro w hSw; (try dsimp only at hSw); go_simp; first | done | with_reducible rfl)
          (try simp only [Act.put, List.setIfInBounds_toArray, List.set_cons_zero, List.set_cons_succ])
          refine wpAnyH_done (by kernel_rfl) ?_ _
          refine NoPanic.normal ?_
          clear hHeld H17
          have HPZ : Hid (Pl W.heap.size wR db V B m (stepK V B o.a x y t s.st 1).2 ((s.calls : Int) + 1) Fz s.l (.slice (some ⟨lb, 0, none⟩) q lc) s.Rs (.slice (some ⟨rb, 0, none⟩) q rc) bs ∧ Mv W wR Fp Fz ∧ RowAt wR nb m (rowK k o.a R0 R1 X Y T 1) ∧ ¬ Fz nb) := ⟨HPCnb.out.1, HPCnb.out.2, hnb.out.2.2, fun hf => by have := HPB.out.1.bd.lt nb hf; have := hnb.out.1; omega⟩
          obtain ⟨wZ, hwZ⟩ : ∃ wZ, wR = wZ := ⟨_, rfl⟩
          simp only [hwZ] at HPZ ⊢
          obtain ⟨nv, hnv⟩ : ∃ nv, (stepK V B o.a x y t s.st 1).1 = nv := ⟨_, rfl⟩
          have hnv2 : (opG s.st (iteT V B s.st x y t)).1 = nv := hnv
          rw [hnv2]
          rw [hnv] at HM
          clear hnv hnv2 hwZ
          have HL1 : Hid ((wZ.alloc (.cells #[.int .i64 nv] 3)).ownsRow 0 3 1 (.slice (some ⟨lb, 0, none⟩) q lc) q (numCells s.l)) := by
            have e := (HPZ.out.1.quiet ((Keeps.refl _ wZ).alloc (.cells #[.int .i64 nv] 3))).lo
            rw [hq] at e
            exact e
          have HL2 : Hid (∀ wC wD, (wZ.alloc (.cells #[.int .i64 nv] 3)).grownBy wC (Value.slice (some ⟨lb, 0, none⟩) q lc).ownBlock → Keeps (fun _ => False) wC wD → wD.ownsRow 0 35 1 (.slice (some ⟨rb, 0, none⟩) q rc) q (slCells m bs)) := fun wC wD g k => by
            have e := HPZ.out.1.ro_keep ((Keeps.refl _ wZ).alloc (.cells #[.int .i64 nv] 3)) g k
            rw [HPZ.out.1.l1, hq] at e
            exact e
          have HPUSH : Hid (∀ v1 w1 v2 w2, w1.ownsRow 0 3 1 v1 (q + 1) (numCells s.l ++ [.int .i64 nv]) → (wZ.alloc (.cells #[.int .i64 nv] 3)).grownBy w1 (Value.slice (some ⟨lb, 0, none⟩) q lc).ownBlock → (∀ x, v1.ownBlock = some x → (Value.slice (some ⟨lb, 0, none⟩) q lc).ownBlock = some x ∨ wZ.heap.size + 1 ≤ x) →
              w2.ownsRow 0 35 1 v2 (q + 1) (slCells m bs ++ [.slice (some ⟨nb, 0, none⟩) m m]) → (w1.alloc (.cells #[.slice (some ⟨nb, 0, none⟩) m m] 35)).grownBy w2 (Value.slice (some ⟨rb, 0, none⟩) q rc).ownBlock → (∀ x, v2.ownBlock = some x → (Value.slice (some ⟨rb, 0, none⟩) q rc).ownBlock = some x ∨ w1.heap.size + 1 ≤ x) →
              Pl W.heap.size w2 db V B m (playTo V B k os (j + 1)).st (playTo V B k os (j + 1)).calls Fz (playTo V B k os (j + 1)).l v1 (playTo V B k os (j + 1)).Rs v2 (bs ++ [nb]) ∧ Mv W w2 Fp Fz) := fun v1 w1 v2 w2 o1 g1 z1 o2 g2 z2 => by
            obtain ⟨p1, p2, p3, p4⟩ := HPZ.out
            have hl := p1.l1
            rw [hq] at hl
            obtain ⟨q1, S, q2, q3⟩ := p1.push p2.keeps.size p3 p4 ((Keeps.refl _ wZ).alloc (.cells #[.int .i64 nv] 3)) (by rw [hq]; exact o1) g1 (fun x hx => (z1 x hx).imp_right (fun h => by simpa using h)) ((Keeps.refl _ w1).alloc (.cells #[.slice (some ⟨nb, 0, none⟩) m m] 35)) (by rw [hl]; exact o2) g2 (fun x hx => (z2 x hx).imp_right (fun h => by simpa using h))
            refine ⟨?_, p2.old q2 (fun k hk => (q3 k hk).2)⟩
            rw [HM.out]
            exact q1
          have HCALLS : Hid ((((playTo V B k os (j + 1)).calls : Nat) : Int) = (s.calls : Int) + 1) := by
            rw [HM.out]
            show ((s.calls + 1 : Nat) : Int) = _
            omega
          have HNB := Lib.hid HPZ.out.2.2
          clear HPZ HM HMODEL HS9 HX HIT
          go_upto_region 29 with fail
          go_wp2_with (at_builtin; refine wpList_append_fp _ rfl _ _ 27 rfl 3 i0 _ 1 8 Try.underlying27 hi0 hz0 hz1 hz2 rfl (by decide) _ q (numCells s.l) rfl HL1.out ⟨wZ.heap.size, 0, none⟩ 1 1 [.int .i64 nv] rfl rfl (cells_new wZ _ _) (by intro u hu; simp only [List.mem_cons, List.not_mem_nil, or_false] at hu; subst hu; rfl) (by omega) (by unfold maxLen; omega) (by omega) ?_)
          intro v1 w1 ho1 hg1 hf1
          have HL3 := Lib.hid (HL2.out w1 (w1.alloc (.cells #[.slice (some ⟨nb, 0, none⟩) m m] 35)) hg1 ((Keeps.refl _ _).alloc _))
          have HPU2 := Lib.hid (fun v2 w2 => HPUSH.out v1 w1 v2 w2 ho1 hg1 hf1)
          clear HL1 HL2 HPUSH ho1 hg1 hf1
          go_wp2_with (at_builtin; refine wpList_append_fp _ rfl _ _ 28 rfl 35 i9 _ 1 24 Try.underlying28 hi9 hy0 hy1 hy2 rfl (by decide) _ q (slCells m bs) rfl HL3.out ⟨w1.heap.size, 0, none⟩ 1 1 [.slice (some ⟨nb, 0, none⟩) m m] rfl rfl (cells_new w1 _ _) (by intro u hu; simp only [List.mem_cons, List.not_mem_nil, or_false] at hu; subst hu; rfl) (by omega) (by unfold maxLen; omega) (by omega) ?_)
          intro v2 w2 ho2 hg2 hf2
          have HREL := Lib.hid (HPU2.out v2 w2 ho2 hg2 hf2)
          clear HPU2 HL3 ho2 hg2 hf2
          go_wp2_with fail
          go_roundg (n - (j + 1))
          case measure => omega
          case rel => exact ⟨j + 1, bs ++ [nb], Fz, by omega, by omega, rfl, congrArg (Value.int .i64) HCALLS.out.symm, by go_num, HREL.out.1, HREL.out.2⟩
        · as_aux_lemma =>
          have mk : ((o.kind : Int)).tmod 8 = 2 := by rw [Int.tmod_eq_emod_of_nonneg (by omega)]; omega
          have HM := Lib.hid (HMODEL.out 2 h8)
          go_upto_region 19 with fail
          have H17 := (HS9.out _ _ _ _ (HP0.out.1.quiet ((Keeps.refl _ wY).drew))).1
          have HPA : Hid (Pl W.heap.size wY.drew db V B m s.st s.calls Fy s.l (.slice (some ⟨lb, 0, none⟩) q lc) s.Rs (.slice (some ⟨rb, 0, none⟩) q rc) bs ∧ Mv W wY.drew Fp Fy) := ⟨HP0.out.1.quiet ((Keeps.refl _ wY).drew), HP0.out.2.trans (Mv.quiet ((Keeps.refl _ wY).drew))⟩
          clear HP0 y0 y1 mk
          refine wp_region_noPanic ?_
          refine wp_region_held_drew (S := fun w' => (w'.cell? ⟨lb, a, none⟩ = some (.int .i64 x) ∧ w'.cell? ⟨lb, b, none⟩ = some (.int .i64 y) ∧ w'.cell? ⟨lb, c, none⟩ = some (.int .i64 t) ∧ w'.cell? ⟨rb, a, none⟩ = some (.slice (some ⟨fa, 0, none⟩) m m) ∧ w'.cell? ⟨rb, b, none⟩ = some (.slice (some ⟨fb, 0, none⟩) m m) ∧ w'.cell? ⟨rb, c, none⟩ = some (.slice (some ⟨fc, 0, none⟩) m m))) (by kernel_rfl) H17 (fun hHeld => ?_)
          refine wpAnyH_take_at (i := 0) (v := ?v0k2) rfl (by kernel_rfl) (by kernel_rfl) (by kernel_rfl) (fun _ _ _ h => h) (Or.inl ⟨by rfl, ?y0k2⟩) hHeld ?r0k2
          case y0k2 => (intro w hSw; (try dsimp only at hSw); go_simp; first | done | with_reducible rfl)
          (try simp only [Act.put, List.setIfInBounds_toArray, List.set_cons_zero, List.set_cons_succ])
          refine wpAnyH_take_at (i := 1) (v := ?v1k2) rfl (by kernel_rfl) (by kernel_rfl) (by kernel_rfl) (fun _ _ _ h => h) (Or.inl ⟨by rfl, ?y1k2⟩) hHeld ?r1k2
          case y1k2 => (intro w hSw; (try dsimp only at hSw); go_simp; first | done | with_reducible rfl)
          (try simp only [Act.put, List.setIfInBounds_toArray, List.set_cons_zero, List.set_cons_succ])
          refine wpAnyH_take_at (i := 2) (v := ?v2k2) rfl (by kernel_rfl) (by kernel_rfl) (by kernel_rfl) (fun _ _ _ h => h) (Or.inl ⟨by rfl, ?y2k2⟩) hHeld ?r2k2
          case y2k2 => (intro w hSw; (try dsimp only at hSw); go_simp; first | done | with_reducible rfl)
          (try simp only [Act.put, List.setIfInBounds_toArray, List.set_cons_zero, List.set_cons_succ])
          refine wpAnyH_take_at (i := 3) (v := ?v3k2) rfl (by kernel_rfl) (by kernel_rfl) (by kernel_rfl) (fun _ _ _ h => h) (Or.inl ⟨by rfl, ?y3k2⟩) hHeld ?r3k2
          case y3k2 => (intro w hSw; (try dsimp only at hSw); go_simp; first | done | with_reducible rfl)
          (try simp only [Act.put, List.setIfInBounds_toArray, List.set_cons_zero, List.set_cons_succ])
          refine wpAnyH_take_at (i := 4) (v := ?v4k2) rfl (by kernel_rfl) (by kernel_rfl) (by kernel_rfl) (fun _ _ _ h => h) (Or.inl ⟨by rfl, ?y4k2⟩) hHeld ?r4k2
          case y4k2 => (intro w hSw; (try dsimp only at hSw); go_simp; first | done | with_reducible rfl)
          (try simp only [Act.put, List.setIfInBounds_toArray, List.set_cons_zero, List.set_cons_succ])
          refine wpAnyH_take_at (i := 6) (v := ?v6k2) rfl (by kernel_rfl) (by kernel_rfl) (by kernel_rfl) (fun _ _ _ h => h) (Or.inl ⟨by rfl, ?y6k2⟩) hHeld ?r6k2
          case y6k2 => (intro w hSw; (try dsimp only at hSw); go_simp; first | done | with_reducible rfl)
          (try simp only [Act.put, List.setIfInBounds_toArray, List.set_cons_zero, List.set_cons_succ])
          refine wpAnyH_take_at (i := 7) (v := ?v7k2) rfl (by kernel_rfl) (by kernel_rfl) (by kernel_rfl) (fun _ _ _ h => h) (Or.inl ⟨by rfl, ?y7k2⟩) hHeld ?r7k2
          case y7k2 => (intro w hSw; (try dsimp only at hSw); go_simp; first | done | with_reducible rfl)
          (try simp only [Act.put, List.setIfInBounds_toArray, List.set_cons_zero, List.set_cons_succ])
          refine wpAnyH_take_at (i := 8) (v := ?v8k2) rfl (by kernel_rfl) (by kernel_rfl) (by kernel_rfl) (fun _ _ _ h => h) (Or.inl ⟨by rfl, ?y8k2⟩) hHeld ?r8k2
          case y8k2 => (intro w hSw; (try dsimp only at hSw); go_simp; first | done | with_reducible rfl)
          (try simp only [Act.put, List.setIfInBounds_toArray, List.set_cons_zero, List.set_cons_succ])
          refine wpAnyH_take_at (i := 9) (v := ?v9k2) rfl (by kernel_rfl) (by kernel_rfl) (by kernel_rfl) (fun _ _ _ h => h) (Or.inl ⟨by rfl, ?y9k2⟩) hHeld ?r9k2
          case y9k2 => (intro w hSw; (try dsimp only at hSw); go_simp; first | done | with_reducible rfl)
          (try simp only [Act.put, List.setIfInBounds_toArray, List.set_cons_zero, List.set_cons_succ])
          refine wpAnyH_take_at (i := 10) (v := ?v10k2) rfl (by kernel_rfl) (by kernel_rfl) (by kernel_rfl) (fun _ _ _ h => h) (Or.inl ⟨by rfl, ?y10k2⟩) hHeld ?r10k2
          case y10k2 => (intro w hSw; (try dsimp only at hSw); go_simp; first | done | with_reducible rfl)
          (try simp only [Act.put, List.setIfInBounds_toArray, List.set_cons_zero, List.set_cons_succ])
          refine wpAnyH_take_at (i := 11) (v := ?v11k2) rfl (by kernel_rfl) (by kernel_rfl) (by kernel_rfl) (fun _ _ _ h => h) (Or.inl ⟨by rfl, ?y11k2⟩) hHeld ?r11k2
          case y11k2 => (intro w hSw; (try dsimp only at hSw); go_simp; first | done | with_reducible rfl)
          (try simp only [Act.put, List.setIfInBounds_toArray, List.set_cons_zero, List.set_cons_succ])
          refine wpAnyH_one (i := 5) (by kernel_rfl) rfl (fun KK hK => ?_)
          go_simp
          refine (bnot_spec hV0 hV6 HPA.out.1.bd PI.out.wf hj90 HX.out.1 hc0 hc1).mono ?_
          rintro e wP ⟨rfl, hbP⟩
          go_simp
          obtain ⟨Fz, hbd, hmv⟩ := hbP.out
          have HPB : Hid (Pl W.heap.size wP db V B m (stepK V B o.a x y t s.st 2).2 ((s.calls : Int) + 1) Fz s.l (.slice (some ⟨lb, 0, none⟩) q lc) s.Rs (.slice (some ⟨rb, 0, none⟩) q rc) bs ∧ Mv W wP Fp Fz) := ⟨HPA.out.1.move hbd hmv, HPA.out.2.trans hmv⟩
          have hs6 := (HS9.out _ _ _ _ HPB.out.1).1
          clear hbd hmv hbP
          refine hK.out _ _ ?s5k2 (fun hHeld => ?_)
          case s5k2 => exact hs6
          clear hK KK
          (try simp only [Act.put, List.setIfInBounds_toArray, List.set_cons_zero, List.set_cons_succ])
          refine wpAnyH_one (i := 12) (by kernel_rfl) rfl (fun KK hK => ?_)
          go_simp
          refine (HIT.out _ X R0 R1 fa f0 f1 (HS9.out _ _ _ _ HPB.out.1).2.2.1.1 (HS9.out _ _ _ _ HPB.out.1).2.2.1.2.2.2.1 (HS9.out _ _ _ _ HPB.out.1).2.2.1.2.2.2.2).mono ?_
          rintro e wR ⟨nb, rfl, hnb⟩
          go_simp
          have HPCnb : Hid (Pl W.heap.size wR db V B m (stepK V B o.a x y t s.st 2).2 ((s.calls : Int) + 1) Fz s.l (.slice (some ⟨lb, 0, none⟩) q lc) s.Rs (.slice (some ⟨rb, 0, none⟩) q rc) bs ∧ Mv W wR Fp Fz) := ⟨HPB.out.1.quiet hnb.out.2.1, HPB.out.2.trans (Mv.quiet hnb.out.2.1)⟩
          have hs6nb := (HS9.out _ _ _ _ HPCnb.out.1).1
          refine hK.out _ _ ?s12k2 (fun hHeld => ?_)
          case s12k2 => exact hs6nb
          clear hK KK
          (try simp only [Act.put, List.setIfInBounds_toArray, List.set_cons_zero, List.set_cons_succ])
          refine wpAnyH_take_at (i := 13) (v := ?v13k2) rfl (by kernel_rfl) (by kernel_rfl) (by kernel_rfl) (fun _ _ _ h => h) (Or.inl ⟨by rfl, ?y13k2⟩) hHeld ?r13k2
          case y13k2 => (intro w hSw; (try dsimp only at hSw); go_simp; first | done | with_reducible rfl)
          (try simp only [Act.put, List.setIfInBounds_toArray, List.set_cons_zero, List.set_cons_succ])
          refine wpAnyH_take_at (i := 14) (v := ?v14k2) rfl (by kernel_rfl) (by kernel_rfl) (by kernel_rfl) (fun _ _ _ h => h) (Or.inl ⟨by rfl, ?y14k2⟩) hHeld ?r14k2
          case y14k2 => (intro w hSw; (try dsimp only at hSw); go_simp; first | done | with_reducible rfl)
          (try simp only [Act.put, List.setIfInBounds_toArray, List.set_cons_zero, List.set_cons_succ])
          refine wpAnyH_done (by kernel_rfl) ?_ _
          refine NoPanic.normal ?_
          clear hHeld H17
          have HPZ : Hid (Pl W.heap.size wR db V B m (stepK V B o.a x y t s.st 2).2 ((s.calls : Int) + 1) Fz s.l (.slice (some ⟨lb, 0, none⟩) q lc) s.Rs (.slice (some ⟨rb, 0, none⟩) q rc) bs ∧ Mv W wR Fp Fz ∧ RowAt wR nb m (rowK k o.a R0 R1 X Y T 2) ∧ ¬ Fz nb) := ⟨HPCnb.out.1, HPCnb.out.2, hnb.out.2.2, fun hf => by have := HPB.out.1.bd.lt nb hf; have := hnb.out.1; omega⟩
          obtain ⟨wZ, hwZ⟩ : ∃ wZ, wR = wZ := ⟨_, rfl⟩
          simp only [hwZ] at HPZ ⊢
          obtain ⟨nv, hnv⟩ : ∃ nv, (stepK V B o.a x y t s.st 2).1 = nv := ⟨_, rfl⟩
          have hnv2 : (opG s.st (iteT V B s.st x 0 1)).1 = nv := hnv
          rw [hnv2]
          rw [hnv] at HM
          clear hnv hnv2 hwZ
          have HL1 : Hid ((wZ.alloc (.cells #[.int .i64 nv] 3)).ownsRow 0 3 1 (.slice (some ⟨lb, 0, none⟩) q lc) q (numCells s.l)) := by
            have e := (HPZ.out.1.quiet ((Keeps.refl _ wZ).alloc (.cells #[.int .i64 nv] 3))).lo
            rw [hq] at e
            exact e
          have HL2 : Hid (∀ wC wD, (wZ.alloc (.cells #[.int .i64 nv] 3)).grownBy wC (Value.slice (some ⟨lb, 0, none⟩) q lc).ownBlock → Keeps (fun _ => False) wC wD → wD.ownsRow 0 35 1 (.slice (some ⟨rb, 0, none⟩) q rc) q (slCells m bs)) := fun wC wD g k => by
            have e := HPZ.out.1.ro_keep ((Keeps.refl _ wZ).alloc (.cells #[.int .i64 nv] 3)) g k
            rw [HPZ.out.1.l1, hq] at e
            exact e
          have HPUSH : Hid (∀ v1 w1 v2 w2, w1.ownsRow 0 3 1 v1 (q + 1) (numCells s.l ++ [.int .i64 nv]) → (wZ.alloc (.cells #[.int .i64 nv] 3)).grownBy w1 (Value.slice (some ⟨lb, 0, none⟩) q lc).ownBlock → (∀ x, v1.ownBlock = some x → (Value.slice (some ⟨lb, 0, none⟩) q lc).ownBlock = some x ∨ wZ.heap.size + 1 ≤ x) →
              w2.ownsRow 0 35 1 v2 (q + 1) (slCells m bs ++ [.slice (some ⟨nb, 0, none⟩) m m]) → (w1.alloc (.cells #[.slice (some ⟨nb, 0, none⟩) m m] 35)).grownBy w2 (Value.slice (some ⟨rb, 0, none⟩) q rc).ownBlock → (∀ x, v2.ownBlock = some x → (Value.slice (some ⟨rb, 0, none⟩) q rc).ownBlock = some x ∨ w1.heap.size + 1 ≤ x) →
              Pl W.heap.size w2 db V B m (playTo V B k os (j + 1)).st (playTo V B k os (j + 1)).calls Fz (playTo V B k os (j + 1)).l v1 (playTo V B k os (j + 1)).Rs v2 (bs ++ [nb]) ∧ Mv W w2 Fp Fz) := fun v1 w1 v2 w2 o1 g1 z1 o2 g2 z2 => by
            obtain ⟨p1, p2, p3, p4⟩ := HPZ.out
            have hl := p1.l1
            rw [hq] at hl
            obtain ⟨q1, S, q2, q3⟩ := p1.push p2.keeps.size p3 p4 ((Keeps.refl _ wZ).alloc (.cells #[.int .i64 nv] 3)) (by rw [hq]; exact o1) g1 (fun x hx => (z1 x hx).imp_right (fun h => by simpa using h)) ((Keeps.refl _ w1).alloc (.cells #[.slice (some ⟨nb, 0, none⟩) m m] 35)) (by rw [hl]; exact o2) g2 (fun x hx => (z2 x hx).imp_right (fun h => by simpa using h))
            refine ⟨?_, p2.old q2 (fun k hk => (q3 k hk).2)⟩
            rw [HM.out]
            exact q1
          have HCALLS : Hid ((((playTo V B k os (j + 1)).calls : Nat) : Int) = (s.calls : Int) + 1) := by
            rw [HM.out]
            show ((s.calls + 1 : Nat) : Int) = _
            omega
          have HNB := Lib.hid HPZ.out.2.2
          clear HPZ HM HMODEL HS9 HX HIT
          go_upto_region 29 with fail
          go_wp2_with (at_builtin; refine wpList_append_fp _ rfl _ _ 27 rfl 3 i0 _ 1 8 Try.underlying27 hi0 hz0 hz1 hz2 rfl (by decide) _ q (numCells s.l) rfl HL1.out ⟨wZ.heap.size, 0, none⟩ 1 1 [.int .i64 nv] rfl rfl (cells_new wZ _ _) (by intro u hu; simp only [List.mem_cons, List.not_mem_nil, or_false] at hu; subst hu; rfl) (by omega) (by unfold maxLen; omega) (by omega) ?_)
          intro v1 w1 ho1 hg1 hf1
          have HL3 := Lib.hid (HL2.out w1 (w1.alloc (.cells #[.slice (some ⟨nb, 0, none⟩) m m] 35)) hg1 ((Keeps.refl _ _).alloc _))
          have HPU2 := Lib.hid (fun v2 w2 => HPUSH.out v1 w1 v2 w2 ho1 hg1 hf1)
          clear HL1 HL2 HPUSH ho1 hg1 hf1
          go_wp2_with (at_builtin; refine wpList_append_fp _ rfl _ _ 28 rfl 35 i9 _ 1 24 Try.underlying28 hi9 hy0 hy1 hy2 rfl (by decide) _ q (slCells m bs) rfl HL3.out ⟨w1.heap.size, 0, none⟩ 1 1 [.slice (some ⟨nb, 0, none⟩) m m] rfl rfl (cells_new w1 _ _) (by intro u hu; simp only [List.mem_cons, List.not_mem_nil, or_false] at hu; subst hu; rfl) (by omega) (by unfold maxLen; omega) (by omega) ?_)
          intro v2 w2 ho2 hg2 hf2
          have HREL := Lib.hid (HPU2.out v2 w2 ho2 hg2 hf2)
          clear HPU2 HL3 ho2 hg2 hf2
          go_wp2_with fail
          go_roundg (n - (j + 1))
          case measure => omega
          case rel => exact ⟨j + 1, bs ++ [nb], Fz, by omega, by omega, rfl, congrArg (Value.int .i64) HCALLS.out.symm, by go_num, HREL.out.1, HREL.out.2⟩
        · as_aux_lemma =>
          have mk : ((o.kind : Int)).tmod 8 = 3 := by rw [Int.tmod_eq_emod_of_nonneg (by omega)]; omega
          have HM := Lib.hid (HMODEL.out 3 h8)
          go_upto_region 21 with fail
          have H17 := (HS9.out _ _ _ _ (HP0.out.1.quiet ((Keeps.refl _ wY).drew))).1
          have HPA : Hid (Pl W.heap.size wY.drew db V B m s.st s.calls Fy s.l (.slice (some ⟨lb, 0, none⟩) q lc) s.Rs (.slice (some ⟨rb, 0, none⟩) q rc) bs ∧ Mv W wY.drew Fp Fy) := ⟨HP0.out.1.quiet ((Keeps.refl _ wY).drew), HP0.out.2.trans (Mv.quiet ((Keeps.refl _ wY).drew))⟩
          clear HP0 y0 y1 mk
          refine wp_region_noPanic ?_
          refine wp_region_held_drew (S := fun w' => (w'.cell? ⟨lb, a, none⟩ = some (.int .i64 x) ∧ w'.cell? ⟨lb, b, none⟩ = some (.int .i64 y) ∧ w'.cell? ⟨lb, c, none⟩ = some (.int .i64 t) ∧ w'.cell? ⟨rb, a, none⟩ = some (.slice (some ⟨fa, 0, none⟩) m m) ∧ w'.cell? ⟨rb, b, none⟩ = some (.slice (some ⟨fb, 0, none⟩) m m) ∧ w'.cell? ⟨rb, c, none⟩ = some (.slice (some ⟨fc, 0, none⟩) m m))) (by kernel_rfl) H17 (fun hHeld => ?_)
          refine wpAnyH_take_at (i := 0) (v := ?v0k3) rfl (by kernel_rfl) (by kernel_rfl) (by kernel_rfl) (fun _ _ _ h => h) (Or.inl ⟨by rfl, ?y0k3⟩) hHeld ?r0k3
          case y0k3 => (intro w hSw; (try dsimp only at hSw); go_simp; first | done | with_reducible rfl)
          (try simp only [Act.put, List.setIfInBounds_toArray, List.set_cons_zero, List.set_cons_succ])
          refine wpAnyH_take_at (i := 1) (v := ?v1k3) rfl (by kernel_rfl) (by kernel_rfl) (by kernel_rfl) (fun _ _ _ h => h) (Or.inl ⟨by rfl, ?y1k3⟩) hHeld ?r1k3
          case y1k3 => (intro w hSw; (try dsimp only at hSw); go_simp; first | done | with_reducible rfl)
          (try simp only [Act.put, List.setIfInBounds_toArray, List.set_cons_zero, List.set_cons_succ])
          refine wpAnyH_take_at (i := 2) (v := ?v2k3) rfl (by kernel_rfl) (by kernel_rfl) (by kernel_rfl) (fun _ _ _ h => h) (Or.inl ⟨by rfl, ?y2k3⟩) hHeld ?r2k3
          case y2k3 => (intro w hSw; (try dsimp only at hSw); go_simp; first | done | with_reducible rfl)
          (try simp only [Act.put, List.setIfInBounds_toArray, List.set_cons_zero, List.set_cons_succ])
          refine wpAnyH_take_at (i := 3) (v := ?v3k3) rfl (by kernel_rfl) (by kernel_rfl) (by kernel_rfl) (fun _ _ _ h => h) (Or.inl ⟨by rfl, ?y3k3⟩) hHeld ?r3k3
          case y3k3 => (intro w hSw; (try dsimp only at hSw); go_simp; first | done | with_reducible rfl)
          (try simp only [Act.put, List.setIfInBounds_toArray, List.set_cons_zero, List.set_cons_succ])
          refine wpAnyH_take_at (i := 4) (v := ?v4k3) rfl (by kernel_rfl) (by kernel_rfl) (by kernel_rfl) (fun _ _ _ h => h) (Or.inl ⟨by rfl, ?y4k3⟩) hHeld ?r4k3
          case y4k3 => (intro w hSw; (try dsimp only at hSw); go_simp; first | done | with_reducible rfl)
          (try simp only [Act.put, List.setIfInBounds_toArray, List.set_cons_zero, List.set_cons_succ])
          refine wpAnyH_take_at (i := 5) (v := ?v5k3) rfl (by kernel_rfl) (by kernel_rfl) (by kernel_rfl) (fun _ _ _ h => h) (Or.inl ⟨by rfl, ?y5k3⟩) hHeld ?r5k3
          case y5k3 => (intro w hSw; (try dsimp only at hSw); go_simp; first | done | with_reducible rfl)
          (try simp only [Act.put, List.setIfInBounds_toArray, List.set_cons_zero, List.set_cons_succ])
          refine wpAnyH_take_at (i := 6) (v := ?v6k3) rfl (by kernel_rfl) (by kernel_rfl) (by kernel_rfl) (fun _ _ _ h => h) (Or.inl ⟨by rfl, ?y6k3⟩) hHeld ?r6k3
          case y6k3 => (intro w hSw; (try dsimp only at hSw); go_simp; first | done | with_reducible rfl)
          (try simp only [Act.put, List.setIfInBounds_toArray, List.set_cons_zero, List.set_cons_succ])
          refine wpAnyH_take_at (i := 7) (v := ?v7k3) rfl (by kernel_rfl) (by kernel_rfl) (by kernel_rfl) (fun _ _ _ h => h) (Or.inl ⟨by rfl, ?y7k3⟩) hHeld ?r7k3
          case y7k3 => (intro w hSw; (try dsimp only at hSw); go_simp; first | done | with_reducible rfl)
          (try simp only [Act.put, List.setIfInBounds_toArray, List.set_cons_zero, List.set_cons_succ])
          refine wpAnyH_take_at (i := 8) (v := ?v8k3) rfl (by kernel_rfl) (by kernel_rfl) (by kernel_rfl) (fun _ _ _ h => h) (Or.inl ⟨by rfl, ?y8k3⟩) hHeld ?r8k3
          case y8k3 => (intro w hSw; (try dsimp only at hSw); go_simp; first | done | with_reducible rfl)
          (try simp only [Act.put, List.setIfInBounds_toArray, List.set_cons_zero, List.set_cons_succ])
          refine wpAnyH_take_at (i := 9) (v := ?v9k3) rfl (by kernel_rfl) (by kernel_rfl) (by kernel_rfl) (fun _ _ _ h => h) (Or.inl ⟨by rfl, ?y9k3⟩) hHeld ?r9k3
          case y9k3 => (intro w hSw; (try dsimp only at hSw); go_simp; first | done | with_reducible rfl)
          (try simp only [Act.put, List.setIfInBounds_toArray, List.set_cons_zero, List.set_cons_succ])
          refine wpAnyH_take_at (i := 10) (v := ?v10k3) rfl (by kernel_rfl) (by kernel_rfl) (by kernel_rfl) (fun _ _ _ h => h) (Or.inl ⟨by rfl, ?y10k3⟩) hHeld ?r10k3
          case y10k3 => (intro w hSw; (try dsimp only at hSw); go_simp; first | done | with_reducible rfl)
          (try simp only [Act.put, List.setIfInBounds_toArray, List.set_cons_zero, List.set_cons_succ])
          refine wpAnyH_take_at (i := 11) (v := ?v11k3) rfl (by kernel_rfl) (by kernel_rfl) (by kernel_rfl) (fun _ _ _ h => h) (Or.inl ⟨by rfl, ?y11k3⟩) hHeld ?r11k3
          case y11k3 => (intro w hSw; (try dsimp only at hSw); go_simp; first | done | with_reducible rfl)
          (try simp only [Act.put, List.setIfInBounds_toArray, List.set_cons_zero, List.set_cons_succ])
          refine wpAnyH_take_at (i := 12) (v := ?v12k3) rfl (by kernel_rfl) (by kernel_rfl) (by kernel_rfl) (fun _ _ _ h => h) (Or.inl ⟨by rfl, ?y12k3⟩) hHeld ?r12k3
          case y12k3 => (intro w hSw; (try dsimp only at hSw); go_simp; first | done | with_reducible rfl)
          (try simp only [Act.put, List.setIfInBounds_toArray, List.set_cons_zero, List.set_cons_succ])
          refine wpAnyH_take_at (i := 15) (v := ?v15k3) rfl (by kernel_rfl) (by kernel_rfl) (by kernel_rfl) (fun _ _ _ h => h) (Or.inl ⟨by rfl, ?y15k3⟩) hHeld ?r15k3
          case y15k3 => (intro w hSw; (try dsimp only at hSw); go_simp; first | done | with_reducible rfl)
          (try simp only [Act.put, List.setIfInBounds_toArray, List.set_cons_zero, List.set_cons_succ])
          refine wpAnyH_take_at (i := 16) (v := ?v16k3) rfl (by kernel_rfl) (by kernel_rfl) (by kernel_rfl) (fun _ _ _ h => h) (Or.inl ⟨by rfl, ?y16k3⟩) hHeld ?r16k3
          case y16k3 => (intro w hSw; (try dsimp only at hSw); go_simp; first | done | with_reducible rfl)
          (try simp only [Act.put, List.setIfInBounds_toArray, List.set_cons_zero, List.set_cons_succ])
          refine wpAnyH_take_at (i := 17) (v := ?v17k3) rfl (by kernel_rfl) (by kernel_rfl) (by kernel_rfl) (fun _ _ _ h => h) (Or.inl ⟨by rfl, ?y17k3⟩) hHeld ?r17k3
          case y17k3 => (intro w hSw; (try dsimp only at hSw); go_simp; first | done | with_reducible rfl)
          (try simp only [Act.put, List.setIfInBounds_toArray, List.set_cons_zero, List.set_cons_succ])
          refine wpAnyH_take_at (i := 18) (v := ?v18k3) rfl (by kernel_rfl) (by kernel_rfl) (by kernel_rfl) (fun _ _ _ h => h) (Or.inl ⟨by rfl, ?y18k3⟩) hHeld ?r18k3
          case y18k3 => (intro w hSw; (try dsimp only at hSw); go_simp; first | done | with_reducible rfl)
          (try simp only [Act.put, List.setIfInBounds_toArray, List.set_cons_zero, List.set_cons_succ])
          refine wpAnyH_take_at (i := 19) (v := ?v19k3) rfl (by kernel_rfl) (by kernel_rfl) (by kernel_rfl) (fun _ _ _ h => h) (Or.inl ⟨by rfl, ?y19k3⟩) hHeld ?r19k3
          case y19k3 => (intro w hSw; (try dsimp only at hSw); go_simp; first | done | with_reducible rfl)
          (try simp only [Act.put, List.setIfInBounds_toArray, List.set_cons_zero, List.set_cons_succ])
          refine wpAnyH_take_at (i := 20) (v := ?v20k3) rfl (by kernel_rfl) (by kernel_rfl) (by kernel_rfl) (fun _ _ _ h => h) (Or.inl ⟨by rfl, ?y20k3⟩) hHeld ?r20k3
          case y20k3 => (intro w hSw; (try dsimp only at hSw); go_simp; first | done | with_reducible rfl)
          (try simp only [Act.put, List.setIfInBounds_toArray, List.set_cons_zero, List.set_cons_succ])
          refine wpAnyH_take_at (i := 21) (v := ?v21k3) rfl (by kernel_rfl) (by kernel_rfl) (by kernel_rfl) (fun _ _ _ h => h) (Or.inl ⟨by rfl, ?y21k3⟩) hHeld ?r21k3
          case y21k3 => (intro w hSw; (try dsimp only at hSw); go_simp; first | done | with_reducible rfl)
          (try simp only [Act.put, List.setIfInBounds_toArray, List.set_cons_zero, List.set_cons_succ])
          refine wpAnyH_take_at (i := 22) (v := ?v22k3) rfl (by kernel_rfl) (by kernel_rfl) (by kernel_rfl) (fun _ _ _ h => h) (Or.inl ⟨by rfl, ?y22k3⟩) hHeld ?r22k3
          case y22k3 => (intro w hSw; (try dsimp only at hSw); go_simp; first | done | with_reducible rfl)
          (try simp only [Act.put, List.setIfInBounds_toArray, List.set_cons_zero, List.set_cons_succ])
          refine wpAnyH_take_at (i := 23) (v := ?v23k3) rfl (by kernel_rfl) (by kernel_rfl) (by kernel_rfl) (fun _ _ _ h => h) (Or.inl ⟨by rfl, ?y23k3⟩) hHeld ?r23k3
          case y23k3 => (intro w hSw; (try dsimp only at hSw); go_simp; first | done | with_reducible rfl)
          (try simp only [Act.put, List.setIfInBounds_toArray, List.set_cons_zero, List.set_cons_succ])
          refine wpAnyH_take_at (i := 24) (v := ?v24k3) rfl (by kernel_rfl) (by kernel_rfl) (by kernel_rfl) (fun _ _ _ h => h) (Or.inl ⟨by rfl, ?y24k3⟩) hHeld ?r24k3
          case y24k3 => (intro w hSw; (try dsimp only at hSw); go_simp; first | done | with_reducible rfl)
          (try simp only [Act.put, List.setIfInBounds_toArray, List.set_cons_zero, List.set_cons_succ])
          refine wpAnyH_take_at (i := 25) (v := ?v25k3) rfl (by kernel_rfl) (by kernel_rfl) (by kernel_rfl) (fun _ _ _ h => h) (Or.inl ⟨by rfl, ?y25k3⟩) hHeld ?r25k3
          case y25k3 => (intro w hSw; (try dsimp only at hSw); go_simp; first | done | with_reducible rfl)
          (try simp only [Act.put, List.setIfInBounds_toArray, List.set_cons_zero, List.set_cons_succ])
          refine wpAnyH_take_at (i := 26) (v := ?v26k3) rfl (by kernel_rfl) (by kernel_rfl) (by kernel_rfl) (fun _ _ _ h => h) (Or.inl ⟨by rfl, ?y26k3⟩) hHeld ?r26k3
          case y26k3 => (intro w hSw; (try dsimp only at hSw); go_simp; first | done | with_reducible rfl)
          (try simp only [Act.put, List.setIfInBounds_toArray, List.set_cons_zero, List.set_cons_succ])
          refine wpAnyH_take_at (i := 27) (v := ?v27k3) rfl (by kernel_rfl) (by kernel_rfl) (by kernel_rfl) (fun _ _ _ h => h) (Or.inl ⟨by rfl, ?y27k3⟩) hHeld ?r27k3
          case y27k3 => (intro w hSw; (try dsimp only at hSw); go_simp; first | done | with_reducible rfl)
          (try simp only [Act.put, List.setIfInBounds_toArray, List.set_cons_zero, List.set_cons_succ])
          refine wpAnyH_take_at (i := 29) (v := ?v29k3) rfl (by kernel_rfl) (by kernel_rfl) (by kernel_rfl) (fun _ _ _ h => h) (Or.inl ⟨by rfl, ?y29k3⟩) hHeld ?r29k3
          case y29k3 => (intro w hSw; (try dsimp only at hSw); go_simp; first | done | with_reducible rfl)
          (try simp only [Act.put, List.setIfInBounds_toArray, List.set_cons_zero, List.set_cons_succ])
          have haq := (MapKept.heap_alloc wY.drew (.cells #[.int .i64 x, .int .i64 y, .int .i64 t] 3)).1
          have HPQ : Hid (Pl W.heap.size (wY.drew.alloc (.cells #[.int .i64 x, .int .i64 y, .int .i64 t] 3)) db V B m s.st s.calls Fy s.l (.slice (some ⟨lb, 0, none⟩) q lc) s.Rs (.slice (some ⟨rb, 0, none⟩) q rc) bs ∧ Mv W (wY.drew.alloc (.cells #[.int .i64 x, .int .i64 y, .int .i64 t] 3)) Fp Fy) := ⟨HPA.out.1.quiet ((Keeps.refl _ _).alloc _), HPA.out.2.trans (Mv.quiet ((Keeps.refl _ _).alloc _))⟩
          have hrowQ : Hid (NumRow (wY.drew.alloc (.cells #[.int .i64 x, .int .i64 y, .int .i64 t] 3)) (some ⟨wY.drew.heap.size, 0, none⟩) [x, y, t] ∧ ∀ b', (some ⟨wY.drew.heap.size, 0, none⟩ : Option Addr) = some ⟨b', 0, none⟩ → ¬ Fy b') := by
            refine ⟨fun _ => ⟨_, rfl, lt_of_heap haq, fun i v hv => ?_⟩, fun b' e hf => ?_⟩
            · rw [cell_of_heap haq i]
              match i, hv with
              | 0, hv => simp at hv; subst hv; rfl
              | 1, hv => simp at hv; subst hv; rfl
              | 2, hv => simp at hv; subst hv; rfl
              | i + 3, hv => simp at hv
            · simp only [Option.some.injEq, Addr.mk.injEq, and_true] at e
              have := HPA.out.1.bd.lt b' hf
              omega
          have hl3 : Hid (∀ f, f ∈ [x, y, t] → isN s.st.n f = true) := fun f hf => by
            simp only [List.mem_cons, List.not_mem_nil, or_false] at hf
            rcases hf with rfl | rfl | rfl
            · exact HX.out.1
            · exact HX.out.2.1
            · exact HX.out.2.2
          have hs6q := (HS9.out _ _ _ _ HPQ.out.1).1
          clear haq
          refine wpAnyH_one (i := 13) (by kernel_rfl) rfl (fun KK hK => ?_)
          go_simp
          refine hK.out _ _ ?s13k3 (fun hHeld => ?_)
          case s13k3 => exact hs6q
          clear hK KK
          (try simp only [Act.put, List.setIfInBounds_toArray, List.set_cons_zero, List.set_cons_succ])
          refine wpAnyH_one (i := 14) (by kernel_rfl) rfl (fun KK hK => ?_)
          go_simp
          refine (band_spec hV0 hV6 HPQ.out.1.bd PI.out.wf hj90 hl3.out (so := some ⟨wY.drew.heap.size, 0, none⟩) (n := 3) (cap := 3) rfl (Nat.le_refl _) (by omega) hrowQ.out.1 hrowQ.out.2 hc0 hc1).mono ?_
          rintro e wP ⟨rfl, hbP⟩
          go_simp
          obtain ⟨Fz, hbd, hmv⟩ := hbP.out
          have HPB : Hid (Pl W.heap.size wP db V B m (stepK V B o.a x y t s.st 3).2 ((s.calls : Int) + 3) Fz s.l (.slice (some ⟨lb, 0, none⟩) q lc) s.Rs (.slice (some ⟨rb, 0, none⟩) q rc) bs ∧ Mv W wP Fp Fz) := ⟨HPQ.out.1.move hbd hmv, HPQ.out.2.trans hmv⟩
          have hs6 := (HS9.out _ _ _ _ HPB.out.1).1
          clear hbd hmv hbP
          refine hK.out _ _ ?s14k3 (fun hHeld => ?_)
          case s14k3 => exact hs6
          clear hK KK
          (try simp only [Act.put, List.setIfInBounds_toArray, List.set_cons_zero, List.set_cons_succ])
          refine wpAnyH_one (i := 28) (by kernel_rfl) rfl (fun KK hK => ?_)
          go_simp
          refine (HIT.out _ Y T R0 fb fc f0 (HS9.out _ _ _ _ HPB.out.1).2.2.1.2.1 (HS9.out _ _ _ _ HPB.out.1).2.2.1.2.2.1 (HS9.out _ _ _ _ HPB.out.1).2.2.1.2.2.2.1).mono ?_
          rintro e wQ ⟨nc, rfl, hnc⟩
          go_simp
          have HPCnc : Hid (Pl W.heap.size wQ db V B m (stepK V B o.a x y t s.st 3).2 ((s.calls : Int) + 3) Fz s.l (.slice (some ⟨lb, 0, none⟩) q lc) s.Rs (.slice (some ⟨rb, 0, none⟩) q rc) bs ∧ Mv W wQ Fp Fz) := ⟨HPB.out.1.quiet hnc.out.2.1, HPB.out.2.trans (Mv.quiet hnc.out.2.1)⟩
          have hs6nc := (HS9.out _ _ _ _ HPCnc.out.1).1
          refine hK.out _ _ ?s28k3 (fun hHeld => ?_)
          case s28k3 => exact hs6nc
          clear hK KK
          (try simp only [Act.put, List.setIfInBounds_toArray, List.set_cons_zero, List.set_cons_succ])
          refine wpAnyH_one (i := 30) (by kernel_rfl) rfl (fun KK hK => ?_)
          go_simp
          refine (HIT.out _ X (iteR Y T R0) R0 fa nc f0 (HS9.out _ _ _ _ HPCnc.out.1).2.2.1.1 hnc.out.2.2 (HS9.out _ _ _ _ HPCnc.out.1).2.2.1.2.2.2.1).mono ?_
          rintro e wR ⟨nb, rfl, hnb⟩
          go_simp
          have HPCnb : Hid (Pl W.heap.size wR db V B m (stepK V B o.a x y t s.st 3).2 ((s.calls : Int) + 3) Fz s.l (.slice (some ⟨lb, 0, none⟩) q lc) s.Rs (.slice (some ⟨rb, 0, none⟩) q rc) bs ∧ Mv W wR Fp Fz) := ⟨HPCnc.out.1.quiet hnb.out.2.1, HPCnc.out.2.trans (Mv.quiet hnb.out.2.1)⟩
          have hs6nb := (HS9.out _ _ _ _ HPCnb.out.1).1
          refine hK.out _ _ ?s30k3 (fun hHeld => ?_)
          case s30k3 => exact hs6nb
          clear hK KK
          (try simp only [Act.put, List.setIfInBounds_toArray, List.set_cons_zero, List.set_cons_succ])
          refine wpAnyH_take_at (i := 31) (v := ?v31k3) rfl (by kernel_rfl) (by kernel_rfl) (by kernel_rfl) (fun _ _ _ h => h) (Or.inl ⟨by rfl, ?y31k3⟩) hHeld ?r31k3
          case y31k3 => (intro w hSw; (try dsimp only at hSw); go_simp; first | done | with_reducible rfl)
          (try simp only [Act.put, List.setIfInBounds_toArray, List.set_cons_zero, List.set_cons_succ])
          refine wpAnyH_take_at (i := 32) (v := ?v32k3) rfl (by kernel_rfl) (by kernel_rfl) (by kernel_rfl) (fun _ _ _ h => h) (Or.inl ⟨by rfl, ?y32k3⟩) hHeld ?r32k3
          case y32k3 => (intro w hSw; (try dsimp only at hSw); go_simp; first | done | with_reducible rfl)
          (try simp only [Act.put, List.setIfInBounds_toArray, List.set_cons_zero, List.set_cons_succ])
          refine wpAnyH_take_at (i := 33) (v := ?v33k3) rfl (by kernel_rfl) (by kernel_rfl) (by kernel_rfl) (fun _ _ _ h => h) (Or.inl ⟨by rfl, ?y33k3⟩) hHeld ?r33k3
          case y33k3 => (intro w hSw; (try dsimp only at hSw); go_simp; first | done | with_reducible rfl)
          (try simp only [Act.put, List.setIfInBounds_toArray, List.set_cons_zero, List.set_cons_succ])
          refine wpAnyH_done (by kernel_rfl) ?_ _
          refine NoPanic.normal ?_
          clear hHeld H17
          have HPZ : Hid (Pl W.heap.size wR db V B m (stepK V B o.a x y t s.st 3).2 ((s.calls : Int) + 3) Fz s.l (.slice (some ⟨lb, 0, none⟩) q lc) s.Rs (.slice (some ⟨rb, 0, none⟩) q rc) bs ∧ Mv W wR Fp Fz ∧ RowAt wR nb m (rowK k o.a R0 R1 X Y T 3) ∧ ¬ Fz nb) := ⟨HPCnb.out.1, HPCnb.out.2, hnb.out.2.2, fun hf => by have := HPCnc.out.1.bd.lt nb hf; have := hnb.out.1; omega⟩
          obtain ⟨wZ, hwZ⟩ : ∃ wZ, wR = wZ := ⟨_, rfl⟩
          simp only [hwZ] at HPZ ⊢
          obtain ⟨nv, hnv⟩ : ∃ nv, (stepK V B o.a x y t s.st 3).1 = nv := ⟨_, rfl⟩
          have hnv2 : (opG s.st (andT V B [x, y, t] (1, s.st))).1 = nv := hnv
          rw [hnv2]
          rw [hnv] at HM
          clear hnv hnv2 hwZ
          have HL1 : Hid ((wZ.alloc (.cells #[.int .i64 nv] 3)).ownsRow 0 3 1 (.slice (some ⟨lb, 0, none⟩) q lc) q (numCells s.l)) := by
            have e := (HPZ.out.1.quiet ((Keeps.refl _ wZ).alloc (.cells #[.int .i64 nv] 3))).lo
            rw [hq] at e
            exact e
          have HL2 : Hid (∀ wC wD, (wZ.alloc (.cells #[.int .i64 nv] 3)).grownBy wC (Value.slice (some ⟨lb, 0, none⟩) q lc).ownBlock → Keeps (fun _ => False) wC wD → wD.ownsRow 0 35 1 (.slice (some ⟨rb, 0, none⟩) q rc) q (slCells m bs)) := fun wC wD g k => by
            have e := HPZ.out.1.ro_keep ((Keeps.refl _ wZ).alloc (.cells #[.int .i64 nv] 3)) g k
            rw [HPZ.out.1.l1, hq] at e
            exact e
          have HPUSH : Hid (∀ v1 w1 v2 w2, w1.ownsRow 0 3 1 v1 (q + 1) (numCells s.l ++ [.int .i64 nv]) → (wZ.alloc (.cells #[.int .i64 nv] 3)).grownBy w1 (Value.slice (some ⟨lb, 0, none⟩) q lc).ownBlock → (∀ x, v1.ownBlock = some x → (Value.slice (some ⟨lb, 0, none⟩) q lc).ownBlock = some x ∨ wZ.heap.size + 1 ≤ x) →
              w2.ownsRow 0 35 1 v2 (q + 1) (slCells m bs ++ [.slice (some ⟨nb, 0, none⟩) m m]) → (w1.alloc (.cells #[.slice (some ⟨nb, 0, none⟩) m m] 35)).grownBy w2 (Value.slice (some ⟨rb, 0, none⟩) q rc).ownBlock → (∀ x, v2.ownBlock = some x → (Value.slice (some ⟨rb, 0, none⟩) q rc).ownBlock = some x ∨ w1.heap.size + 1 ≤ x) →
              Pl W.heap.size w2 db V B m (playTo V B k os (j + 1)).st (playTo V B k os (j + 1)).calls Fz (playTo V B k os (j + 1)).l v1 (playTo V B k os (j + 1)).Rs v2 (bs ++ [nb]) ∧ Mv W w2 Fp Fz) := fun v1 w1 v2 w2 o1 g1 z1 o2 g2 z2 => by
            obtain ⟨p1, p2, p3, p4⟩ := HPZ.out
            have hl := p1.l1
            rw [hq] at hl
            obtain ⟨q1, S, q2, q3⟩ := p1.push p2.keeps.size p3 p4 ((Keeps.refl _ wZ).alloc (.cells #[.int .i64 nv] 3)) (by rw [hq]; exact o1) g1 (fun x hx => (z1 x hx).imp_right (fun h => by simpa using h)) ((Keeps.refl _ w1).alloc (.cells #[.slice (some ⟨nb, 0, none⟩) m m] 35)) (by rw [hl]; exact o2) g2 (fun x hx => (z2 x hx).imp_right (fun h => by simpa using h))
            refine ⟨?_, p2.old q2 (fun k hk => (q3 k hk).2)⟩
            rw [HM.out]
            exact q1
          have HCALLS : Hid ((((playTo V B k os (j + 1)).calls : Nat) : Int) = (s.calls : Int) + 3) := by
            rw [HM.out]
            show ((s.calls + 3 : Nat) : Int) = _
            omega
          have HNB := Lib.hid HPZ.out.2.2
          clear HPZ HM HMODEL HS9 HX HIT
          go_upto_region 29 with fail
          go_wp2_with (at_builtin; refine wpList_append_fp _ rfl _ _ 27 rfl 3 i0 _ 1 8 Try.underlying27 hi0 hz0 hz1 hz2 rfl (by decide) _ q (numCells s.l) rfl HL1.out ⟨wZ.heap.size, 0, none⟩ 1 1 [.int .i64 nv] rfl rfl (cells_new wZ _ _) (by intro u hu; simp only [List.mem_cons, List.not_mem_nil, or_false] at hu; subst hu; rfl) (by omega) (by unfold maxLen; omega) (by omega) ?_)
          intro v1 w1 ho1 hg1 hf1
          have HL3 := Lib.hid (HL2.out w1 (w1.alloc (.cells #[.slice (some ⟨nb, 0, none⟩) m m] 35)) hg1 ((Keeps.refl _ _).alloc _))
          have HPU2 := Lib.hid (fun v2 w2 => HPUSH.out v1 w1 v2 w2 ho1 hg1 hf1)
          clear HL1 HL2 HPUSH ho1 hg1 hf1
          go_wp2_with (at_builtin; refine wpList_append_fp _ rfl _ _ 28 rfl 35 i9 _ 1 24 Try.underlying28 hi9 hy0 hy1 hy2 rfl (by decide) _ q (slCells m bs) rfl HL3.out ⟨w1.heap.size, 0, none⟩ 1 1 [.slice (some ⟨nb, 0, none⟩) m m] rfl rfl (cells_new w1 _ _) (by intro u hu; simp only [List.mem_cons, List.not_mem_nil, or_false] at hu; subst hu; rfl) (by omega) (by unfold maxLen; omega) (by omega) ?_)
          intro v2 w2 ho2 hg2 hf2
          have HREL := Lib.hid (HPU2.out v2 w2 ho2 hg2 hf2)
          clear HPU2 HL3 ho2 hg2 hf2
          go_wp2_with fail
          go_roundg (n - (j + 1))
          case measure => omega
          case rel => exact ⟨j + 1, bs ++ [nb], Fz, by omega, by omega, rfl, congrArg (Value.int .i64) HCALLS.out.symm, by go_num, HREL.out.1, HREL.out.2⟩
        · as_aux_lemma =>
          have mk : ((o.kind : Int)).tmod 8 = 4 := by rw [Int.tmod_eq_emod_of_nonneg (by omega)]; omega
          have HM := Lib.hid (HMODEL.out 4 h8)
          go_upto_region 23 with fail
          have H17 := (HS9.out _ _ _ _ (HP0.out.1.quiet ((Keeps.refl _ wY).drew))).1
          have HPA : Hid (Pl W.heap.size wY.drew db V B m s.st s.calls Fy s.l (.slice (some ⟨lb, 0, none⟩) q lc) s.Rs (.slice (some ⟨rb, 0, none⟩) q rc) bs ∧ Mv W wY.drew Fp Fy) := ⟨HP0.out.1.quiet ((Keeps.refl _ wY).drew), HP0.out.2.trans (Mv.quiet ((Keeps.refl _ wY).drew))⟩
          clear HP0 y0 y1 mk
          refine wp_region_noPanic ?_
          refine wp_region_held_drew (S := fun w' => (w'.cell? ⟨lb, a, none⟩ = some (.int .i64 x) ∧ w'.cell? ⟨lb, b, none⟩ = some (.int .i64 y) ∧ w'.cell? ⟨lb, c, none⟩ = some (.int .i64 t) ∧ w'.cell? ⟨rb, a, none⟩ = some (.slice (some ⟨fa, 0, none⟩) m m) ∧ w'.cell? ⟨rb, b, none⟩ = some (.slice (some ⟨fb, 0, none⟩) m m) ∧ w'.cell? ⟨rb, c, none⟩ = some (.slice (some ⟨fc, 0, none⟩) m m))) (by kernel_rfl) H17 (fun hHeld => ?_)
          refine wpAnyH_take_at (i := 0) (v := ?v0k4) rfl (by kernel_rfl) (by kernel_rfl) (by kernel_rfl) (fun _ _ _ h => h) (Or.inl ⟨by rfl, ?y0k4⟩) hHeld ?r0k4
          case y0k4 => (intro w hSw; (try dsimp only at hSw); go_simp; first | done | with_reducible rfl)
          (try simp only [Act.put, List.setIfInBounds_toArray, List.set_cons_zero, List.set_cons_succ])
          refine wpAnyH_take_at (i := 1) (v := ?v1k4) rfl (by kernel_rfl) (by kernel_rfl) (by kernel_rfl) (fun _ _ _ h => h) (Or.inl ⟨by rfl, ?y1k4⟩) hHeld ?r1k4
          case y1k4 => (intro w hSw; (try dsimp only at hSw); go_simp; first | done | with_reducible rfl)
          (try simp only [Act.put, List.setIfInBounds_toArray, List.set_cons_zero, List.set_cons_succ])
          refine wpAnyH_take_at (i := 2) (v := ?v2k4) rfl (by kernel_rfl) (by kernel_rfl) (by kernel_rfl) (fun _ _ _ h => h) (Or.inl ⟨by rfl, ?y2k4⟩) hHeld ?r2k4
          case y2k4 => (intro w hSw; (try dsimp only at hSw); go_simp; first | done | with_reducible rfl)
          (try simp only [Act.put, List.setIfInBounds_toArray, List.set_cons_zero, List.set_cons_succ])
          refine wpAnyH_take_at (i := 3) (v := ?v3k4) rfl (by kernel_rfl) (by kernel_rfl) (by kernel_rfl) (fun _ _ _ h => h) (Or.inl ⟨by rfl, ?y3k4⟩) hHeld ?r3k4
          case y3k4 => (intro w hSw; (try dsimp only at hSw); go_simp; first | done | with_reducible rfl)
          (try simp only [Act.put, List.setIfInBounds_toArray, List.set_cons_zero, List.set_cons_succ])
          refine wpAnyH_take_at (i := 4) (v := ?v4k4) rfl (by kernel_rfl) (by kernel_rfl) (by kernel_rfl) (fun _ _ _ h => h) (Or.inl ⟨by rfl, ?y4k4⟩) hHeld ?r4k4
          case y4k4 => (intro w hSw; (try dsimp only at hSw); go_simp; first | done | with_reducible rfl)
          (try simp only [Act.put, List.setIfInBounds_toArray, List.set_cons_zero, List.set_cons_succ])
          refine wpAnyH_take_at (i := 5) (v := ?v5k4) rfl (by kernel_rfl) (by kernel_rfl) (by kernel_rfl) (fun _ _ _ h => h) (Or.inl ⟨by rfl, ?y5k4⟩) hHeld ?r5k4
          case y5k4 => (intro w hSw; (try dsimp only at hSw); go_simp; first | done | with_reducible rfl)
          (try simp only [Act.put, List.setIfInBounds_toArray, List.set_cons_zero, List.set_cons_succ])
          refine wpAnyH_take_at (i := 6) (v := ?v6k4) rfl (by kernel_rfl) (by kernel_rfl) (by kernel_rfl) (fun _ _ _ h => h) (Or.inl ⟨by rfl, ?y6k4⟩) hHeld ?r6k4
          case y6k4 => (intro w hSw; (try dsimp only at hSw); go_simp; first | done | with_reducible rfl)
          (try simp only [Act.put, List.setIfInBounds_toArray, List.set_cons_zero, List.set_cons_succ])
          refine wpAnyH_take_at (i := 7) (v := ?v7k4) rfl (by kernel_rfl) (by kernel_rfl) (by kernel_rfl) (fun _ _ _ h => h) (Or.inl ⟨by rfl, ?y7k4⟩) hHeld ?r7k4
          case y7k4 => (intro w hSw; (try dsimp only at hSw); go_simp; first | done | with_reducible rfl)
          (try simp only [Act.put, List.setIfInBounds_toArray, List.set_cons_zero, List.set_cons_succ])
          refine wpAnyH_take_at (i := 8) (v := ?v8k4) rfl (by kernel_rfl) (by kernel_rfl) (by kernel_rfl) (fun _ _ _ h => h) (Or.inl ⟨by rfl, ?y8k4⟩) hHeld ?r8k4
          case y8k4 => (intro w hSw; (try dsimp only at hSw); go_simp; first | done | with_reducible rfl)
          (try simp only [Act.put, List.setIfInBounds_toArray, List.set_cons_zero, List.set_cons_succ])
          refine wpAnyH_take_at (i := 9) (v := ?v9k4) rfl (by kernel_rfl) (by kernel_rfl) (by kernel_rfl) (fun _ _ _ h => h) (Or.inl ⟨by rfl, ?y9k4⟩) hHeld ?r9k4
          case y9k4 => (intro w hSw; (try dsimp only at hSw); go_simp; first | done | with_reducible rfl)
          (try simp only [Act.put, List.setIfInBounds_toArray, List.set_cons_zero, List.set_cons_succ])
          refine wpAnyH_take_at (i := 10) (v := ?v10k4) rfl (by kernel_rfl) (by kernel_rfl) (by kernel_rfl) (fun _ _ _ h => h) (Or.inl ⟨by rfl, ?y10k4⟩) hHeld ?r10k4
          case y10k4 => (intro w hSw; (try dsimp only at hSw); go_simp; first | done | with_reducible rfl)
          (try simp only [Act.put, List.setIfInBounds_toArray, List.set_cons_zero, List.set_cons_succ])
          refine wpAnyH_take_at (i := 11) (v := ?v11k4) rfl (by kernel_rfl) (by kernel_rfl) (by kernel_rfl) (fun _ _ _ h => h) (Or.inl ⟨by rfl, ?y11k4⟩) hHeld ?r11k4
          case y11k4 => (intro w hSw; (try dsimp only at hSw); go_simp; first | done | with_reducible rfl)
          (try simp only [Act.put, List.setIfInBounds_toArray, List.set_cons_zero, List.set_cons_succ])
          refine wpAnyH_take_at (i := 12) (v := ?v12k4) rfl (by kernel_rfl) (by kernel_rfl) (by kernel_rfl) (fun _ _ _ h => h) (Or.inl ⟨by rfl, ?y12k4⟩) hHeld ?r12k4
          case y12k4 => (intro w hSw; (try dsimp only at hSw); go_simp; first | done | with_reducible rfl)
          (try simp only [Act.put, List.setIfInBounds_toArray, List.set_cons_zero, List.set_cons_succ])
          refine wpAnyH_take_at (i := 15) (v := ?v15k4) rfl (by kernel_rfl) (by kernel_rfl) (by kernel_rfl) (fun _ _ _ h => h) (Or.inl ⟨by rfl, ?y15k4⟩) hHeld ?r15k4
          case y15k4 => (intro w hSw; (try dsimp only at hSw); go_simp; first | done | with_reducible rfl)
          (try simp only [Act.put, List.setIfInBounds_toArray, List.set_cons_zero, List.set_cons_succ])
          refine wpAnyH_take_at (i := 16) (v := ?v16k4) rfl (by kernel_rfl) (by kernel_rfl) (by kernel_rfl) (fun _ _ _ h => h) (Or.inl ⟨by rfl, ?y16k4⟩) hHeld ?r16k4
          case y16k4 => (intro w hSw; (try dsimp only at hSw); go_simp; first | done | with_reducible rfl)
          (try simp only [Act.put, List.setIfInBounds_toArray, List.set_cons_zero, List.set_cons_succ])
          refine wpAnyH_take_at (i := 17) (v := ?v17k4) rfl (by kernel_rfl) (by kernel_rfl) (by kernel_rfl) (fun _ _ _ h => h) (Or.inl ⟨by rfl, ?y17k4⟩) hHeld ?r17k4
          case y17k4 => (intro w hSw; (try dsimp only at hSw); go_simp; first | done | with_reducible rfl)
          (try simp only [Act.put, List.setIfInBounds_toArray, List.set_cons_zero, List.set_cons_succ])
          refine wpAnyH_take_at (i := 18) (v := ?v18k4) rfl (by kernel_rfl) (by kernel_rfl) (by kernel_rfl) (fun _ _ _ h => h) (Or.inl ⟨by rfl, ?y18k4⟩) hHeld ?r18k4
          case y18k4 => (intro w hSw; (try dsimp only at hSw); go_simp; first | done | with_reducible rfl)
          (try simp only [Act.put, List.setIfInBounds_toArray, List.set_cons_zero, List.set_cons_succ])
          refine wpAnyH_take_at (i := 19) (v := ?v19k4) rfl (by kernel_rfl) (by kernel_rfl) (by kernel_rfl) (fun _ _ _ h => h) (Or.inl ⟨by rfl, ?y19k4⟩) hHeld ?r19k4
          case y19k4 => (intro w hSw; (try dsimp only at hSw); go_simp; first | done | with_reducible rfl)
          (try simp only [Act.put, List.setIfInBounds_toArray, List.set_cons_zero, List.set_cons_succ])
          refine wpAnyH_take_at (i := 20) (v := ?v20k4) rfl (by kernel_rfl) (by kernel_rfl) (by kernel_rfl) (fun _ _ _ h => h) (Or.inl ⟨by rfl, ?y20k4⟩) hHeld ?r20k4
          case y20k4 => (intro w hSw; (try dsimp only at hSw); go_simp; first | done | with_reducible rfl)
          (try simp only [Act.put, List.setIfInBounds_toArray, List.set_cons_zero, List.set_cons_succ])
          refine wpAnyH_take_at (i := 21) (v := ?v21k4) rfl (by kernel_rfl) (by kernel_rfl) (by kernel_rfl) (fun _ _ _ h => h) (Or.inl ⟨by rfl, ?y21k4⟩) hHeld ?r21k4
          case y21k4 => (intro w hSw; (try dsimp only at hSw); go_simp; first | done | with_reducible rfl)
          (try simp only [Act.put, List.setIfInBounds_toArray, List.set_cons_zero, List.set_cons_succ])
          refine wpAnyH_take_at (i := 22) (v := ?v22k4) rfl (by kernel_rfl) (by kernel_rfl) (by kernel_rfl) (fun _ _ _ h => h) (Or.inl ⟨by rfl, ?y22k4⟩) hHeld ?r22k4
          case y22k4 => (intro w hSw; (try dsimp only at hSw); go_simp; first | done | with_reducible rfl)
          (try simp only [Act.put, List.setIfInBounds_toArray, List.set_cons_zero, List.set_cons_succ])
          refine wpAnyH_take_at (i := 23) (v := ?v23k4) rfl (by kernel_rfl) (by kernel_rfl) (by kernel_rfl) (fun _ _ _ h => h) (Or.inl ⟨by rfl, ?y23k4⟩) hHeld ?r23k4
          case y23k4 => (intro w hSw; (try dsimp only at hSw); go_simp; first | done | with_reducible rfl)
          (try simp only [Act.put, List.setIfInBounds_toArray, List.set_cons_zero, List.set_cons_succ])
          refine wpAnyH_take_at (i := 24) (v := ?v24k4) rfl (by kernel_rfl) (by kernel_rfl) (by kernel_rfl) (fun _ _ _ h => h) (Or.inl ⟨by rfl, ?y24k4⟩) hHeld ?r24k4
          case y24k4 => (intro w hSw; (try dsimp only at hSw); go_simp; first | done | with_reducible rfl)
          (try simp only [Act.put, List.setIfInBounds_toArray, List.set_cons_zero, List.set_cons_succ])
          refine wpAnyH_take_at (i := 25) (v := ?v25k4) rfl (by kernel_rfl) (by kernel_rfl) (by kernel_rfl) (fun _ _ _ h => h) (Or.inl ⟨by rfl, ?y25k4⟩) hHeld ?r25k4
          case y25k4 => (intro w hSw; (try dsimp only at hSw); go_simp; first | done | with_reducible rfl)
          (try simp only [Act.put, List.setIfInBounds_toArray, List.set_cons_zero, List.set_cons_succ])
          refine wpAnyH_take_at (i := 26) (v := ?v26k4) rfl (by kernel_rfl) (by kernel_rfl) (by kernel_rfl) (fun _ _ _ h => h) (Or.inl ⟨by rfl, ?y26k4⟩) hHeld ?r26k4
          case y26k4 => (intro w hSw; (try dsimp only at hSw); go_simp; first | done | with_reducible rfl)
          (try simp only [Act.put, List.setIfInBounds_toArray, List.set_cons_zero, List.set_cons_succ])
          refine wpAnyH_take_at (i := 27) (v := ?v27k4) rfl (by kernel_rfl) (by kernel_rfl) (by kernel_rfl) (fun _ _ _ h => h) (Or.inl ⟨by rfl, ?y27k4⟩) hHeld ?r27k4
          case y27k4 => (intro w hSw; (try dsimp only at hSw); go_simp; first | done | with_reducible rfl)
          (try simp only [Act.put, List.setIfInBounds_toArray, List.set_cons_zero, List.set_cons_succ])
          refine wpAnyH_take_at (i := 28) (v := ?v28k4) rfl (by kernel_rfl) (by kernel_rfl) (by kernel_rfl) (fun _ _ _ h => h) (Or.inl ⟨by rfl, ?y28k4⟩) hHeld ?r28k4
          case y28k4 => (intro w hSw; (try dsimp only at hSw); go_simp; first | done | with_reducible rfl)
          (try simp only [Act.put, List.setIfInBounds_toArray, List.set_cons_zero, List.set_cons_succ])
          have haq := (MapKept.heap_alloc wY.drew (.cells #[.int .i64 x, .int .i64 y, .int .i64 t] 3)).1
          have HPQ : Hid (Pl W.heap.size (wY.drew.alloc (.cells #[.int .i64 x, .int .i64 y, .int .i64 t] 3)) db V B m s.st s.calls Fy s.l (.slice (some ⟨lb, 0, none⟩) q lc) s.Rs (.slice (some ⟨rb, 0, none⟩) q rc) bs ∧ Mv W (wY.drew.alloc (.cells #[.int .i64 x, .int .i64 y, .int .i64 t] 3)) Fp Fy) := ⟨HPA.out.1.quiet ((Keeps.refl _ _).alloc _), HPA.out.2.trans (Mv.quiet ((Keeps.refl _ _).alloc _))⟩
          have hrowQ : Hid (NumRow (wY.drew.alloc (.cells #[.int .i64 x, .int .i64 y, .int .i64 t] 3)) (some ⟨wY.drew.heap.size, 0, none⟩) [x, y, t] ∧ ∀ b', (some ⟨wY.drew.heap.size, 0, none⟩ : Option Addr) = some ⟨b', 0, none⟩ → ¬ Fy b') := by
            refine ⟨fun _ => ⟨_, rfl, lt_of_heap haq, fun i v hv => ?_⟩, fun b' e hf => ?_⟩
            · rw [cell_of_heap haq i]
              match i, hv with
              | 0, hv => simp at hv; subst hv; rfl
              | 1, hv => simp at hv; subst hv; rfl
              | 2, hv => simp at hv; subst hv; rfl
              | i + 3, hv => simp at hv
            · simp only [Option.some.injEq, Addr.mk.injEq, and_true] at e
              have := HPA.out.1.bd.lt b' hf
              omega
          have hl3 : Hid (∀ f, f ∈ [x, y, t] → isN s.st.n f = true) := fun f hf => by
            simp only [List.mem_cons, List.not_mem_nil, or_false] at hf
            rcases hf with rfl | rfl | rfl
            · exact HX.out.1
            · exact HX.out.2.1
            · exact HX.out.2.2
          have hs6q := (HS9.out _ _ _ _ HPQ.out.1).1
          clear haq
          refine wpAnyH_one (i := 13) (by kernel_rfl) rfl (fun KK hK => ?_)
          go_simp
          refine hK.out _ _ ?s13k4 (fun hHeld => ?_)
          case s13k4 => exact hs6q
          clear hK KK
          (try simp only [Act.put, List.setIfInBounds_toArray, List.set_cons_zero, List.set_cons_succ])
          refine wpAnyH_one (i := 14) (by kernel_rfl) rfl (fun KK hK => ?_)
          go_simp
          refine (bor_spec hV0 hV6 HPQ.out.1.bd PI.out.wf hj90 hl3.out (so := some ⟨wY.drew.heap.size, 0, none⟩) (n := 3) (cap := 3) rfl (Nat.le_refl _) (by omega) hrowQ.out.1 hrowQ.out.2 hc0 hc1).mono ?_
          rintro e wP ⟨rfl, hbP⟩
          go_simp
          obtain ⟨Fz, hbd, hmv⟩ := hbP.out
          have HPB : Hid (Pl W.heap.size wP db V B m (stepK V B o.a x y t s.st 4).2 ((s.calls : Int) + 3) Fz s.l (.slice (some ⟨lb, 0, none⟩) q lc) s.Rs (.slice (some ⟨rb, 0, none⟩) q rc) bs ∧ Mv W wP Fp Fz) := ⟨HPQ.out.1.move hbd hmv, HPQ.out.2.trans hmv⟩
          have hs6 := (HS9.out _ _ _ _ HPB.out.1).1
          clear hbd hmv hbP
          refine hK.out _ _ ?s14k4 (fun hHeld => ?_)
          case s14k4 => exact hs6
          clear hK KK
          (try simp only [Act.put, List.setIfInBounds_toArray, List.set_cons_zero, List.set_cons_succ])
          refine wpAnyH_one (i := 29) (by kernel_rfl) rfl (fun KK hK => ?_)
          go_simp
          refine (HIT.out _ Y R1 T fb f1 fc (HS9.out _ _ _ _ HPB.out.1).2.2.1.2.1 (HS9.out _ _ _ _ HPB.out.1).2.2.1.2.2.2.2 (HS9.out _ _ _ _ HPB.out.1).2.2.1.2.2.1).mono ?_
          rintro e wQ ⟨nc, rfl, hnc⟩
          go_simp
          have HPCnc : Hid (Pl W.heap.size wQ db V B m (stepK V B o.a x y t s.st 4).2 ((s.calls : Int) + 3) Fz s.l (.slice (some ⟨lb, 0, none⟩) q lc) s.Rs (.slice (some ⟨rb, 0, none⟩) q rc) bs ∧ Mv W wQ Fp Fz) := ⟨HPB.out.1.quiet hnc.out.2.1, HPB.out.2.trans (Mv.quiet hnc.out.2.1)⟩
          have hs6nc := (HS9.out _ _ _ _ HPCnc.out.1).1
          refine hK.out _ _ ?s29k4 (fun hHeld => ?_)
          case s29k4 => exact hs6nc
          clear hK KK
          (try simp only [Act.put, List.setIfInBounds_toArray, List.set_cons_zero, List.set_cons_succ])
          refine wpAnyH_one (i := 30) (by kernel_rfl) rfl (fun KK hK => ?_)
          go_simp
          refine (HIT.out _ X R1 (iteR Y R1 T) fa f1 nc (HS9.out _ _ _ _ HPCnc.out.1).2.2.1.1 (HS9.out _ _ _ _ HPCnc.out.1).2.2.1.2.2.2.2 hnc.out.2.2).mono ?_
          rintro e wR ⟨nb, rfl, hnb⟩
          go_simp
          have HPCnb : Hid (Pl W.heap.size wR db V B m (stepK V B o.a x y t s.st 4).2 ((s.calls : Int) + 3) Fz s.l (.slice (some ⟨lb, 0, none⟩) q lc) s.Rs (.slice (some ⟨rb, 0, none⟩) q rc) bs ∧ Mv W wR Fp Fz) := ⟨HPCnc.out.1.quiet hnb.out.2.1, HPCnc.out.2.trans (Mv.quiet hnb.out.2.1)⟩
          have hs6nb := (HS9.out _ _ _ _ HPCnb.out.1).1
          refine hK.out _ _ ?s30k4 (fun hHeld => ?_)
          case s30k4 => exact hs6nb
          clear hK KK
          (try simp only [Act.put, List.setIfInBounds_toArray, List.set_cons_zero, List.set_cons_succ])
          refine wpAnyH_take_at (i := 31) (v := ?v31k4) rfl (by kernel_rfl) (by kernel_rfl) (by kernel_rfl) (fun _ _ _ h => h) (Or.inl ⟨by rfl, ?y31k4⟩) hHeld ?r31k4
          case y31k4 => (intro w hSw; (try dsimp only at hSw); go_simp; first | done | with_reducible rfl)
          (try simp only [Act.put, List.setIfInBounds_toArray, List.set_cons_zero, List.set_cons_succ])
          refine wpAnyH_take_at (i := 32) (v := ?v32k4) rfl (by kernel_rfl) (by kernel_rfl) (by kernel_rfl) (fun _ _ _ h => h) (Or.inl ⟨by rfl, ?y32k4⟩) hHeld ?r32k4
          case y32k4 => (intro w hSw; (try dsimp only at hSw); go_simp; first | done | with_reducible rfl)
          (try simp only [Act.put, List.setIfInBounds_toArray, List.set_cons_zero, List.set_cons_succ])
          refine wpAnyH_take_at (i := 33) (v := ?v33k4) rfl (by kernel_rfl) (by kernel_rfl) (by kernel_rfl) (fun _ _ _ h => h) (Or.inl ⟨by rfl, ?y33k4⟩) hHeld ?r33k4
          case y33k4 => (intro w hSw; (try dsimp only at hSw); go_simp; first | done | with_reducible rfl)
          (try simp only [Act.put, List.setIfInBounds_toArray, List.set_cons_zero, List.set_cons_succ])
          refine wpAnyH_done (by kernel_rfl) ?_ _
          refine NoPanic.normal ?_
          clear hHeld H17
          have HPZ : Hid (Pl W.heap.size wR db V B m (stepK V B o.a x y t s.st 4).2 ((s.calls : Int) + 3) Fz s.l (.slice (some ⟨lb, 0, none⟩) q lc) s.Rs (.slice (some ⟨rb, 0, none⟩) q rc) bs ∧ Mv W wR Fp Fz ∧ RowAt wR nb m (rowK k o.a R0 R1 X Y T 4) ∧ ¬ Fz nb) := ⟨HPCnb.out.1, HPCnb.out.2, hnb.out.2.2, fun hf => by have := HPCnc.out.1.bd.lt nb hf; have := hnb.out.1; omega⟩
          obtain ⟨wZ, hwZ⟩ : ∃ wZ, wR = wZ := ⟨_, rfl⟩
          simp only [hwZ] at HPZ ⊢
          obtain ⟨nv, hnv⟩ : ∃ nv, (stepK V B o.a x y t s.st 4).1 = nv := ⟨_, rfl⟩
          have hnv2 : (opG s.st (orT V B [x, y, t] (0, s.st))).1 = nv := hnv
          rw [hnv2]
          rw [hnv] at HM
          clear hnv hnv2 hwZ
          have HL1 : Hid ((wZ.alloc (.cells #[.int .i64 nv] 3)).ownsRow 0 3 1 (.slice (some ⟨lb, 0, none⟩) q lc) q (numCells s.l)) := by
            have e := (HPZ.out.1.quiet ((Keeps.refl _ wZ).alloc (.cells #[.int .i64 nv] 3))).lo
            rw [hq] at e
            exact e
          have HL2 : Hid (∀ wC wD, (wZ.alloc (.cells #[.int .i64 nv] 3)).grownBy wC (Value.slice (some ⟨lb, 0, none⟩) q lc).ownBlock → Keeps (fun _ => False) wC wD → wD.ownsRow 0 35 1 (.slice (some ⟨rb, 0, none⟩) q rc) q (slCells m bs)) := fun wC wD g k => by
            have e := HPZ.out.1.ro_keep ((Keeps.refl _ wZ).alloc (.cells #[.int .i64 nv] 3)) g k
            rw [HPZ.out.1.l1, hq] at e
            exact e
          have HPUSH : Hid (∀ v1 w1 v2 w2, w1.ownsRow 0 3 1 v1 (q + 1) (numCells s.l ++ [.int .i64 nv]) → (wZ.alloc (.cells #[.int .i64 nv] 3)).grownBy w1 (Value.slice (some ⟨lb, 0, none⟩) q lc).ownBlock → (∀ x, v1.ownBlock = some x → (Value.slice (some ⟨lb, 0, none⟩) q lc).ownBlock = some x ∨ wZ.heap.size + 1 ≤ x) →
              w2.ownsRow 0 35 1 v2 (q + 1) (slCells m bs ++ [.slice (some ⟨nb, 0, none⟩) m m]) → (w1.alloc (.cells #[.slice (some ⟨nb, 0, none⟩) m m] 35)).grownBy w2 (Value.slice (some ⟨rb, 0, none⟩) q rc).ownBlock → (∀ x, v2.ownBlock = some x → (Value.slice (some ⟨rb, 0, none⟩) q rc).ownBlock = some x ∨ w1.heap.size + 1 ≤ x) →
              Pl W.heap.size w2 db V B m (playTo V B k os (j + 1)).st (playTo V B k os (j + 1)).calls Fz (playTo V B k os (j + 1)).l v1 (playTo V B k os (j + 1)).Rs v2 (bs ++ [nb]) ∧ Mv W w2 Fp Fz) := fun v1 w1 v2 w2 o1 g1 z1 o2 g2 z2 => by
            obtain ⟨p1, p2, p3, p4⟩ := HPZ.out
            have hl := p1.l1
            rw [hq] at hl
            obtain ⟨q1, S, q2, q3⟩ := p1.push p2.keeps.size p3 p4 ((Keeps.refl _ wZ).alloc (.cells #[.int .i64 nv] 3)) (by rw [hq]; exact o1) g1 (fun x hx => (z1 x hx).imp_right (fun h => by simpa using h)) ((Keeps.refl _ w1).alloc (.cells #[.slice (some ⟨nb, 0, none⟩) m m] 35)) (by rw [hl]; exact o2) g2 (fun x hx => (z2 x hx).imp_right (fun h => by simpa using h))
            refine ⟨?_, p2.old q2 (fun k hk => (q3 k hk).2)⟩
            rw [HM.out]
            exact q1
          have HCALLS : Hid ((((playTo V B k os (j + 1)).calls : Nat) : Int) = (s.calls : Int) + 3) := by
            rw [HM.out]
            show ((s.calls + 3 : Nat) : Int) = _
            omega
          have HNB := Lib.hid HPZ.out.2.2
          clear HPZ HM HMODEL HS9 HX HIT
          go_upto_region 29 with fail
          go_wp2_with (at_builtin; refine wpList_append_fp _ rfl _ _ 27 rfl 3 i0 _ 1 8 Try.underlying27 hi0 hz0 hz1 hz2 rfl (by decide) _ q (numCells s.l) rfl HL1.out ⟨wZ.heap.size, 0, none⟩ 1 1 [.int .i64 nv] rfl rfl (cells_new wZ _ _) (by intro u hu; simp only [List.mem_cons, List.not_mem_nil, or_false] at hu; subst hu; rfl) (by omega) (by unfold maxLen; omega) (by omega) ?_)
          intro v1 w1 ho1 hg1 hf1
          have HL3 := Lib.hid (HL2.out w1 (w1.alloc (.cells #[.slice (some ⟨nb, 0, none⟩) m m] 35)) hg1 ((Keeps.refl _ _).alloc _))
          have HPU2 := Lib.hid (fun v2 w2 => HPUSH.out v1 w1 v2 w2 ho1 hg1 hf1)
          clear HL1 HL2 HPUSH ho1 hg1 hf1
          go_wp2_with (at_builtin; refine wpList_append_fp _ rfl _ _ 28 rfl 35 i9 _ 1 24 Try.underlying28 hi9 hy0 hy1 hy2 rfl (by decide) _ q (slCells m bs) rfl HL3.out ⟨w1.heap.size, 0, none⟩ 1 1 [.slice (some ⟨nb, 0, none⟩) m m] rfl rfl (cells_new w1 _ _) (by intro u hu; simp only [List.mem_cons, List.not_mem_nil, or_false] at hu; subst hu; rfl) (by omega) (by unfold maxLen; omega) (by omega) ?_)
          intro v2 w2 ho2 hg2 hf2
          have HREL := Lib.hid (HPU2.out v2 w2 ho2 hg2 hf2)
          clear HPU2 HL3 ho2 hg2 hf2
          go_wp2_with fail
          go_roundg (n - (j + 1))
          case measure => omega
          case rel => exact ⟨j + 1, bs ++ [nb], Fz, by omega, by omega, rfl, congrArg (Value.int .i64) HCALLS.out.symm, by go_num, HREL.out.1, HREL.out.2⟩
        · as_aux_lemma =>
          have mk : ((o.kind : Int)).tmod 8 = 5 := by rw [Int.tmod_eq_emod_of_nonneg (by omega)]; omega
          have HM := Lib.hid (HMODEL.out 5 h8)
          go_upto_region 25 with fail
          have H17 := (HS9.out _ _ _ _ (HP0.out.1.quiet ((Keeps.refl _ wY).drew))).1
          have HPA : Hid (Pl W.heap.size wY.drew db V B m s.st s.calls Fy s.l (.slice (some ⟨lb, 0, none⟩) q lc) s.Rs (.slice (some ⟨rb, 0, none⟩) q rc) bs ∧ Mv W wY.drew Fp Fy) := ⟨HP0.out.1.quiet ((Keeps.refl _ wY).drew), HP0.out.2.trans (Mv.quiet ((Keeps.refl _ wY).drew))⟩
          clear HP0 y0 y1 mk
          refine wp_region_noPanic ?_
          refine wp_region_held_drew (S := fun w' => (w'.cell? ⟨lb, a, none⟩ = some (.int .i64 x) ∧ w'.cell? ⟨lb, b, none⟩ = some (.int .i64 y) ∧ w'.cell? ⟨lb, c, none⟩ = some (.int .i64 t) ∧ w'.cell? ⟨rb, a, none⟩ = some (.slice (some ⟨fa, 0, none⟩) m m) ∧ w'.cell? ⟨rb, b, none⟩ = some (.slice (some ⟨fb, 0, none⟩) m m) ∧ w'.cell? ⟨rb, c, none⟩ = some (.slice (some ⟨fc, 0, none⟩) m m))) (by kernel_rfl) H17 (fun hHeld => ?_)
          refine wpAnyH_take_at (i := 0) (v := ?v0k5) rfl (by kernel_rfl) (by kernel_rfl) (by kernel_rfl) (fun _ _ _ h => h) (Or.inl ⟨by rfl, ?y0k5⟩) hHeld ?r0k5
          case y0k5 => (intro w hSw; (try dsimp only at hSw); go_simp; first | done | with_reducible rfl)
          (try simp only [Act.put, List.setIfInBounds_toArray, List.set_cons_zero, List.set_cons_succ])
          refine wpAnyH_take_at (i := 1) (v := ?v1k5) rfl (by kernel_rfl) (by kernel_rfl) (by kernel_rfl) (fun _ _ _ h => h) (Or.inl ⟨by rfl, ?y1k5⟩) hHeld ?r1k5
          case y1k5 => (intro w hSw; (try dsimp only at hSw); go_simp; first | done | with_reducible rfl)
          (try simp only [Act.put, List.setIfInBounds_toArray, List.set_cons_zero, List.set_cons_succ])
          refine wpAnyH_take_at (i := 2) (v := ?v2k5) rfl (by kernel_rfl) (by kernel_rfl) (by kernel_rfl) (fun _ _ _ h => h) (Or.inl ⟨by rfl, ?y2k5⟩) hHeld ?r2k5
          case y2k5 => (intro w hSw; (try dsimp only at hSw); go_simp; first | done | with_reducible rfl)
          (try simp only [Act.put, List.setIfInBounds_toArray, List.set_cons_zero, List.set_cons_succ])
          refine wpAnyH_take_at (i := 3) (v := ?v3k5) rfl (by kernel_rfl) (by kernel_rfl) (by kernel_rfl) (fun _ _ _ h => h) (Or.inl ⟨by rfl, ?y3k5⟩) hHeld ?r3k5
          case y3k5 => (intro w hSw; (try dsimp only at hSw); go_simp; first | done | with_reducible rfl)
          (try simp only [Act.put, List.setIfInBounds_toArray, List.set_cons_zero, List.set_cons_succ])
          refine wpAnyH_take_at (i := 4) (v := ?v4k5) rfl (by kernel_rfl) (by kernel_rfl) (by kernel_rfl) (fun _ _ _ h => h) (Or.inl ⟨by rfl, ?y4k5⟩) hHeld ?r4k5
          case y4k5 => (intro w hSw; (try dsimp only at hSw); go_simp; first | done | with_reducible rfl)
          (try simp only [Act.put, List.setIfInBounds_toArray, List.set_cons_zero, List.set_cons_succ])
          refine wpAnyH_take_at (i := 5) (v := ?v5k5) rfl (by kernel_rfl) (by kernel_rfl) (by kernel_rfl) (fun _ _ _ h => h) (Or.inl ⟨by rfl, ?y5k5⟩) hHeld ?r5k5
          case y5k5 => (intro w hSw; (try dsimp only at hSw); go_simp; first | done | with_reducible rfl)
          (try simp only [Act.put, List.setIfInBounds_toArray, List.set_cons_zero, List.set_cons_succ])
          refine wpAnyH_take_at (i := 6) (v := ?v6k5) rfl (by kernel_rfl) (by kernel_rfl) (by kernel_rfl) (fun _ _ _ h => h) (Or.inl ⟨by rfl, ?y6k5⟩) hHeld ?r6k5
          case y6k5 => (intro w hSw; (try dsimp only at hSw); go_simp; first | done | with_reducible rfl)
          (try simp only [Act.put, List.setIfInBounds_toArray, List.set_cons_zero, List.set_cons_succ])
          refine wpAnyH_take_at (i := 7) (v := ?v7k5) rfl (by kernel_rfl) (by kernel_rfl) (by kernel_rfl) (fun _ _ _ h => h) (Or.inl ⟨by rfl, ?y7k5⟩) hHeld ?r7k5
          case y7k5 => (intro w hSw; (try dsimp only at hSw); go_simp; first | done | with_reducible rfl)
          (try simp only [Act.put, List.setIfInBounds_toArray, List.set_cons_zero, List.set_cons_succ])
          refine wpAnyH_take_at (i := 8) (v := ?v8k5) rfl (by kernel_rfl) (by kernel_rfl) (by kernel_rfl) (fun _ _ _ h => h) (Or.inl ⟨by rfl, ?y8k5⟩) hHeld ?r8k5
          case y8k5 => (intro w hSw; (try dsimp only at hSw); go_simp; first | done | with_reducible rfl)
          (try simp only [Act.put, List.setIfInBounds_toArray, List.set_cons_zero, List.set_cons_succ])
          refine wpAnyH_take_at (i := 10) (v := ?v10k5) rfl (by kernel_rfl) (by kernel_rfl) (by kernel_rfl) (fun _ _ _ h => h) (Or.inl ⟨by rfl, ?y10k5⟩) hHeld ?r10k5
          case y10k5 => (intro w hSw; (try dsimp only at hSw); go_simp; first | done | with_reducible rfl)
          (try simp only [Act.put, List.setIfInBounds_toArray, List.set_cons_zero, List.set_cons_succ])
          refine wpAnyH_take_at (i := 11) (v := ?v11k5) rfl (by kernel_rfl) (by kernel_rfl) (by kernel_rfl) (fun _ _ _ h => h) (Or.inl ⟨by rfl, ?y11k5⟩) hHeld ?r11k5
          case y11k5 => (intro w hSw; (try dsimp only at hSw); go_simp; first | done | with_reducible rfl)
          (try simp only [Act.put, List.setIfInBounds_toArray, List.set_cons_zero, List.set_cons_succ])
          refine wpAnyH_take_at (i := 12) (v := ?v12k5) rfl (by kernel_rfl) (by kernel_rfl) (by kernel_rfl) (fun _ _ _ h => h) (Or.inl ⟨by rfl, ?y12k5⟩) hHeld ?r12k5
          case y12k5 => (intro w hSw; (try dsimp only at hSw); go_simp; first | done | with_reducible rfl)
          (try simp only [Act.put, List.setIfInBounds_toArray, List.set_cons_zero, List.set_cons_succ])
          refine wpAnyH_take_at (i := 13) (v := ?v13k5) rfl (by kernel_rfl) (by kernel_rfl) (by kernel_rfl) (fun _ _ _ h => h) (Or.inl ⟨by rfl, ?y13k5⟩) hHeld ?r13k5
          case y13k5 => (intro w hSw; (try dsimp only at hSw); go_simp; first | done | with_reducible rfl)
          (try simp only [Act.put, List.setIfInBounds_toArray, List.set_cons_zero, List.set_cons_succ])
          refine wpAnyH_take_at (i := 14) (v := ?v14k5) rfl (by kernel_rfl) (by kernel_rfl) (by kernel_rfl) (fun _ _ _ h => h) (Or.inl ⟨by rfl, ?y14k5⟩) hHeld ?r14k5
          case y14k5 => (intro w hSw; (try dsimp only at hSw); go_simp; first | done | with_reducible rfl)
          (try simp only [Act.put, List.setIfInBounds_toArray, List.set_cons_zero, List.set_cons_succ])
          refine wpAnyH_take_at (i := 15) (v := ?v15k5) rfl (by kernel_rfl) (by kernel_rfl) (by kernel_rfl) (fun _ _ _ h => h) (Or.inl ⟨by rfl, ?y15k5⟩) hHeld ?r15k5
          case y15k5 => (intro w hSw; (try dsimp only at hSw); go_simp; first | done | with_reducible rfl)
          (try simp only [Act.put, List.setIfInBounds_toArray, List.set_cons_zero, List.set_cons_succ])
          refine wpAnyH_take_at (i := 16) (v := ?v16k5) rfl (by kernel_rfl) (by kernel_rfl) (by kernel_rfl) (fun _ _ _ h => h) (Or.inl ⟨by rfl, ?y16k5⟩) hHeld ?r16k5
          case y16k5 => (intro w hSw; (try dsimp only at hSw); go_simp; first | done | with_reducible rfl)
          (try simp only [Act.put, List.setIfInBounds_toArray, List.set_cons_zero, List.set_cons_succ])
          refine wpAnyH_take_at (i := 17) (v := ?v17k5) rfl (by kernel_rfl) (by kernel_rfl) (by kernel_rfl) (fun _ _ _ h => h) (Or.inl ⟨by rfl, ?y17k5⟩) hHeld ?r17k5
          case y17k5 => (intro w hSw; (try dsimp only at hSw); go_simp; first | done | with_reducible rfl)
          (try simp only [Act.put, List.setIfInBounds_toArray, List.set_cons_zero, List.set_cons_succ])
          refine wpAnyH_take_at (i := 18) (v := ?v18k5) rfl (by kernel_rfl) (by kernel_rfl) (by kernel_rfl) (fun _ _ _ h => h) (Or.inl ⟨by rfl, ?y18k5⟩) hHeld ?r18k5
          case y18k5 => (intro w hSw; (try dsimp only at hSw); go_simp; first | done | with_reducible rfl)
          (try simp only [Act.put, List.setIfInBounds_toArray, List.set_cons_zero, List.set_cons_succ])
          refine wpAnyH_take_at (i := 19) (v := ?v19k5) rfl (by kernel_rfl) (by kernel_rfl) (by kernel_rfl) (fun _ _ _ h => h) (Or.inl ⟨by rfl, ?y19k5⟩) hHeld ?r19k5
          case y19k5 => (intro w hSw; (try dsimp only at hSw); go_simp; first | done | with_reducible rfl)
          (try simp only [Act.put, List.setIfInBounds_toArray, List.set_cons_zero, List.set_cons_succ])
          refine wpAnyH_take_at (i := 21) (v := ?v21k5) rfl (by kernel_rfl) (by kernel_rfl) (by kernel_rfl) (fun _ _ _ h => h) (Or.inl ⟨by rfl, ?y21k5⟩) hHeld ?r21k5
          case y21k5 => (intro w hSw; (try dsimp only at hSw); go_simp; first | done | with_reducible rfl)
          (try simp only [Act.put, List.setIfInBounds_toArray, List.set_cons_zero, List.set_cons_succ])
          refine wpAnyH_take_at (i := 22) (v := ?v22k5) rfl (by kernel_rfl) (by kernel_rfl) (by kernel_rfl) (fun _ _ _ h => h) (Or.inl ⟨by rfl, ?y22k5⟩) hHeld ?r22k5
          case y22k5 => (intro w hSw; (try dsimp only at hSw); go_simp; first | done | with_reducible rfl)
          (try simp only [Act.put, List.setIfInBounds_toArray, List.set_cons_zero, List.set_cons_succ])
          refine wpAnyH_take_at (i := 23) (v := ?v23k5) rfl (by kernel_rfl) (by kernel_rfl) (by kernel_rfl) (fun _ _ _ h => h) (Or.inl ⟨by rfl, ?y23k5⟩) hHeld ?r23k5
          case y23k5 => (intro w hSw; (try dsimp only at hSw); go_simp; first | done | with_reducible rfl)
          (try simp only [Act.put, List.setIfInBounds_toArray, List.set_cons_zero, List.set_cons_succ])
          refine wpAnyH_take_at (i := 24) (v := ?v24k5) rfl (by kernel_rfl) (by kernel_rfl) (by kernel_rfl) (fun _ _ _ h => h) (Or.inl ⟨by rfl, ?y24k5⟩) hHeld ?r24k5
          case y24k5 => (intro w hSw; (try dsimp only at hSw); go_simp; first | done | with_reducible rfl)
          (try simp only [Act.put, List.setIfInBounds_toArray, List.set_cons_zero, List.set_cons_succ])
          refine wpAnyH_one (i := 9) (by kernel_rfl) rfl (fun KK hK => ?_)
          go_simp
          refine (bxor_spec hV0 hV6 HPA.out.1.bd PI.out.wf hj90 HX.out.1 HX.out.2.1 hc0 hc1).mono ?_
          rintro e wP ⟨rfl, hbP⟩
          go_simp
          obtain ⟨Fz, hbd, hmv⟩ := hbP.out
          have HPB : Hid (Pl W.heap.size wP db V B m (stepK V B o.a x y t s.st 5).2 ((s.calls : Int) + 1) Fz s.l (.slice (some ⟨lb, 0, none⟩) q lc) s.Rs (.slice (some ⟨rb, 0, none⟩) q rc) bs ∧ Mv W wP Fp Fz) := ⟨HPA.out.1.move hbd hmv, HPA.out.2.trans hmv⟩
          have hs6 := (HS9.out _ _ _ _ HPB.out.1).1
          clear hbd hmv hbP
          refine hK.out _ _ ?s9k5 (fun hHeld => ?_)
          case s9k5 => exact hs6
          clear hK KK
          (try simp only [Act.put, List.setIfInBounds_toArray, List.set_cons_zero, List.set_cons_succ])
          refine wpAnyH_one (i := 20) (by kernel_rfl) rfl (fun KK hK => ?_)
          go_simp
          refine (HIT.out _ Y R0 R1 fb f0 f1 (HS9.out _ _ _ _ HPB.out.1).2.2.1.2.1 (HS9.out _ _ _ _ HPB.out.1).2.2.1.2.2.2.1 (HS9.out _ _ _ _ HPB.out.1).2.2.1.2.2.2.2).mono ?_
          rintro e wQ ⟨nc, rfl, hnc⟩
          go_simp
          have HPCnc : Hid (Pl W.heap.size wQ db V B m (stepK V B o.a x y t s.st 5).2 ((s.calls : Int) + 1) Fz s.l (.slice (some ⟨lb, 0, none⟩) q lc) s.Rs (.slice (some ⟨rb, 0, none⟩) q rc) bs ∧ Mv W wQ Fp Fz) := ⟨HPB.out.1.quiet hnc.out.2.1, HPB.out.2.trans (Mv.quiet hnc.out.2.1)⟩
          have hs6nc := (HS9.out _ _ _ _ HPCnc.out.1).1
          refine hK.out _ _ ?s20k5 (fun hHeld => ?_)
          case s20k5 => exact hs6nc
          clear hK KK
          (try simp only [Act.put, List.setIfInBounds_toArray, List.set_cons_zero, List.set_cons_succ])
          refine wpAnyH_one (i := 25) (by kernel_rfl) rfl (fun KK hK => ?_)
          go_simp
          refine (HIT.out _ X (iteR Y R0 R1) Y fa nc fb (HS9.out _ _ _ _ HPCnc.out.1).2.2.1.1 hnc.out.2.2 (HS9.out _ _ _ _ HPCnc.out.1).2.2.1.2.1).mono ?_
          rintro e wR ⟨nb, rfl, hnb⟩
          go_simp
          have HPCnb : Hid (Pl W.heap.size wR db V B m (stepK V B o.a x y t s.st 5).2 ((s.calls : Int) + 1) Fz s.l (.slice (some ⟨lb, 0, none⟩) q lc) s.Rs (.slice (some ⟨rb, 0, none⟩) q rc) bs ∧ Mv W wR Fp Fz) := ⟨HPCnc.out.1.quiet hnb.out.2.1, HPCnc.out.2.trans (Mv.quiet hnb.out.2.1)⟩
          have hs6nb := (HS9.out _ _ _ _ HPCnb.out.1).1
          refine hK.out _ _ ?s25k5 (fun hHeld => ?_)
          case s25k5 => exact hs6nb
          clear hK KK
          (try simp only [Act.put, List.setIfInBounds_toArray, List.set_cons_zero, List.set_cons_succ])
          refine wpAnyH_take_at (i := 26) (v := ?v26k5) rfl (by kernel_rfl) (by kernel_rfl) (by kernel_rfl) (fun _ _ _ h => h) (Or.inl ⟨by rfl, ?y26k5⟩) hHeld ?r26k5
          case y26k5 => (intro w hSw; (try dsimp only at hSw); go_simp; first | done | with_reducible rfl)
          (try simp only [Act.put, List.setIfInBounds_toArray, List.set_cons_zero, List.set_cons_succ])
          refine wpAnyH_take_at (i := 27) (v := ?v27k5) rfl (by kernel_rfl) (by kernel_rfl) (by kernel_rfl) (fun _ _ _ h => h) (Or.inl ⟨by rfl, ?y27k5⟩) hHeld ?r27k5
          case y27k5 => (intro w hSw; (try dsimp only at hSw); go_simp; first | done | with_reducible rfl)
          (try simp only [Act.put, List.setIfInBounds_toArray, List.set_cons_zero, List.set_cons_succ])
          refine wpAnyH_done (by kernel_rfl) ?_ _
          refine NoPanic.normal ?_
          clear hHeld H17
          have HPZ : Hid (Pl W.heap.size wR db V B m (stepK V B o.a x y t s.st 5).2 ((s.calls : Int) + 1) Fz s.l (.slice (some ⟨lb, 0, none⟩) q lc) s.Rs (.slice (some ⟨rb, 0, none⟩) q rc) bs ∧ Mv W wR Fp Fz ∧ RowAt wR nb m (rowK k o.a R0 R1 X Y T 5) ∧ ¬ Fz nb) := ⟨HPCnb.out.1, HPCnb.out.2, hnb.out.2.2, fun hf => by have := HPCnc.out.1.bd.lt nb hf; have := hnb.out.1; omega⟩
          obtain ⟨wZ, hwZ⟩ : ∃ wZ, wR = wZ := ⟨_, rfl⟩
          simp only [hwZ] at HPZ ⊢
          obtain ⟨nv, hnv⟩ : ∃ nv, (stepK V B o.a x y t s.st 5).1 = nv := ⟨_, rfl⟩
          have hnv2 : (opG s.st (xorT V B s.st x y)).1 = nv := hnv
          rw [hnv2]
          rw [hnv] at HM
          clear hnv hnv2 hwZ
          have HL1 : Hid ((wZ.alloc (.cells #[.int .i64 nv] 3)).ownsRow 0 3 1 (.slice (some ⟨lb, 0, none⟩) q lc) q (numCells s.l)) := by
            have e := (HPZ.out.1.quiet ((Keeps.refl _ wZ).alloc (.cells #[.int .i64 nv] 3))).lo
            rw [hq] at e
            exact e
          have HL2 : Hid (∀ wC wD, (wZ.alloc (.cells #[.int .i64 nv] 3)).grownBy wC (Value.slice (some ⟨lb, 0, none⟩) q lc).ownBlock → Keeps (fun _ => False) wC wD → wD.ownsRow 0 35 1 (.slice (some ⟨rb, 0, none⟩) q rc) q (slCells m bs)) := fun wC wD g k => by
            have e := HPZ.out.1.ro_keep ((Keeps.refl _ wZ).alloc (.cells #[.int .i64 nv] 3)) g k
            rw [HPZ.out.1.l1, hq] at e
            exact e
          have HPUSH : Hid (∀ v1 w1 v2 w2, w1.ownsRow 0 3 1 v1 (q + 1) (numCells s.l ++ [.int .i64 nv]) → (wZ.alloc (.cells #[.int .i64 nv] 3)).grownBy w1 (Value.slice (some ⟨lb, 0, none⟩) q lc).ownBlock → (∀ x, v1.ownBlock = some x → (Value.slice (some ⟨lb, 0, none⟩) q lc).ownBlock = some x ∨ wZ.heap.size + 1 ≤ x) →
              w2.ownsRow 0 35 1 v2 (q + 1) (slCells m bs ++ [.slice (some ⟨nb, 0, none⟩) m m]) → (w1.alloc (.cells #[.slice (some ⟨nb, 0, none⟩) m m] 35)).grownBy w2 (Value.slice (some ⟨rb, 0, none⟩) q rc).ownBlock → (∀ x, v2.ownBlock = some x → (Value.slice (some ⟨rb, 0, none⟩) q rc).ownBlock = some x ∨ w1.heap.size + 1 ≤ x) →
              Pl W.heap.size w2 db V B m (playTo V B k os (j + 1)).st (playTo V B k os (j + 1)).calls Fz (playTo V B k os (j + 1)).l v1 (playTo V B k os (j + 1)).Rs v2 (bs ++ [nb]) ∧ Mv W w2 Fp Fz) := fun v1 w1 v2 w2 o1 g1 z1 o2 g2 z2 => by
            obtain ⟨p1, p2, p3, p4⟩ := HPZ.out
            have hl := p1.l1
            rw [hq] at hl
            obtain ⟨q1, S, q2, q3⟩ := p1.push p2.keeps.size p3 p4 ((Keeps.refl _ wZ).alloc (.cells #[.int .i64 nv] 3)) (by rw [hq]; exact o1) g1 (fun x hx => (z1 x hx).imp_right (fun h => by simpa using h)) ((Keeps.refl _ w1).alloc (.cells #[.slice (some ⟨nb, 0, none⟩) m m] 35)) (by rw [hl]; exact o2) g2 (fun x hx => (z2 x hx).imp_right (fun h => by simpa using h))
            refine ⟨?_, p2.old q2 (fun k hk => (q3 k hk).2)⟩
            rw [HM.out]
            exact q1
          have HCALLS : Hid ((((playTo V B k os (j + 1)).calls : Nat) : Int) = (s.calls : Int) + 1) := by
            rw [HM.out]
            show ((s.calls + 1 : Nat) : Int) = _
            omega
          have HNB := Lib.hid HPZ.out.2.2
          clear HPZ HM HMODEL HS9 HX HIT
          go_upto_region 29 with fail
          go_wp2_with (at_builtin; refine wpList_append_fp _ rfl _ _ 27 rfl 3 i0 _ 1 8 Try.underlying27 hi0 hz0 hz1 hz2 rfl (by decide) _ q (numCells s.l) rfl HL1.out ⟨wZ.heap.size, 0, none⟩ 1 1 [.int .i64 nv] rfl rfl (cells_new wZ _ _) (by intro u hu; simp only [List.mem_cons, List.not_mem_nil, or_false] at hu; subst hu; rfl) (by omega) (by unfold maxLen; omega) (by omega) ?_)
          intro v1 w1 ho1 hg1 hf1
          have HL3 := Lib.hid (HL2.out w1 (w1.alloc (.cells #[.slice (some ⟨nb, 0, none⟩) m m] 35)) hg1 ((Keeps.refl _ _).alloc _))
          have HPU2 := Lib.hid (fun v2 w2 => HPUSH.out v1 w1 v2 w2 ho1 hg1 hf1)
          clear HL1 HL2 HPUSH ho1 hg1 hf1
          go_wp2_with (at_builtin; refine wpList_append_fp _ rfl _ _ 28 rfl 35 i9 _ 1 24 Try.underlying28 hi9 hy0 hy1 hy2 rfl (by decide) _ q (slCells m bs) rfl HL3.out ⟨w1.heap.size, 0, none⟩ 1 1 [.slice (some ⟨nb, 0, none⟩) m m] rfl rfl (cells_new w1 _ _) (by intro u hu; simp only [List.mem_cons, List.not_mem_nil, or_false] at hu; subst hu; rfl) (by omega) (by unfold maxLen; omega) (by omega) ?_)
          intro v2 w2 ho2 hg2 hf2
          have HREL := Lib.hid (HPU2.out v2 w2 ho2 hg2 hf2)
          clear HPU2 HL3 ho2 hg2 hf2
          go_wp2_with fail
          go_roundg (n - (j + 1))
          case measure => omega
          case rel => exact ⟨j + 1, bs ++ [nb], Fz, by omega, by omega, rfl, congrArg (Value.int .i64) HCALLS.out.symm, by go_num, HREL.out.1, HREL.out.2⟩
        · as_aux_lemma =>
          have mk : ((o.kind : Int)).tmod 8 = 6 := by rw [Int.tmod_eq_emod_of_nonneg (by omega)]; omega
          have HM := Lib.hid (HMODEL.out 6 h8)
          go_upto_region 27 with fail
          have H17 := (HS9.out _ _ _ _ (HP0.out.1.quiet ((Keeps.refl _ wY).drew))).1
          have HPA : Hid (Pl W.heap.size wY.drew db V B m s.st s.calls Fy s.l (.slice (some ⟨lb, 0, none⟩) q lc) s.Rs (.slice (some ⟨rb, 0, none⟩) q rc) bs ∧ Mv W wY.drew Fp Fy) := ⟨HP0.out.1.quiet ((Keeps.refl _ wY).drew), HP0.out.2.trans (Mv.quiet ((Keeps.refl _ wY).drew))⟩
          clear HP0 y0 y1 mk
          refine wp_region_noPanic ?_
          refine wp_region_held_drew (S := fun w' => (w'.cell? ⟨lb, a, none⟩ = some (.int .i64 x) ∧ w'.cell? ⟨lb, b, none⟩ = some (.int .i64 y) ∧ w'.cell? ⟨lb, c, none⟩ = some (.int .i64 t) ∧ w'.cell? ⟨rb, a, none⟩ = some (.slice (some ⟨fa, 0, none⟩) m m) ∧ w'.cell? ⟨rb, b, none⟩ = some (.slice (some ⟨fb, 0, none⟩) m m) ∧ w'.cell? ⟨rb, c, none⟩ = some (.slice (some ⟨fc, 0, none⟩) m m))) (by kernel_rfl) H17 (fun hHeld => ?_)
          refine wpAnyH_take_at (i := 0) (v := ?v0k6) rfl (by kernel_rfl) (by kernel_rfl) (by kernel_rfl) (fun _ _ _ h => h) (Or.inl ⟨by rfl, ?y0k6⟩) hHeld ?r0k6
          case y0k6 => (intro w hSw; (try dsimp only at hSw); go_simp; first | done | with_reducible rfl)
          (try simp only [Act.put, List.setIfInBounds_toArray, List.set_cons_zero, List.set_cons_succ])
          refine wpAnyH_take_at (i := 1) (v := ?v1k6) rfl (by kernel_rfl) (by kernel_rfl) (by kernel_rfl) (fun _ _ _ h => h) (Or.inl ⟨by rfl, ?y1k6⟩) hHeld ?r1k6
          case y1k6 => (intro w hSw; (try dsimp only at hSw); go_simp; first | done | with_reducible rfl)
          (try simp only [Act.put, List.setIfInBounds_toArray, List.set_cons_zero, List.set_cons_succ])
          refine wpAnyH_take_at (i := 2) (v := ?v2k6) rfl (by kernel_rfl) (by kernel_rfl) (by kernel_rfl) (fun _ _ _ h => h) (Or.inl ⟨by rfl, ?y2k6⟩) hHeld ?r2k6
          case y2k6 => (intro w hSw; (try dsimp only at hSw); go_simp; first | done | with_reducible rfl)
          (try simp only [Act.put, List.setIfInBounds_toArray, List.set_cons_zero, List.set_cons_succ])
          refine wpAnyH_take_at (i := 3) (v := ?v3k6) rfl (by kernel_rfl) (by kernel_rfl) (by kernel_rfl) (fun _ _ _ h => h) (Or.inl ⟨by rfl, ?y3k6⟩) hHeld ?r3k6
          case y3k6 => (intro w hSw; (try dsimp only at hSw); go_simp; first | done | with_reducible rfl)
          (try simp only [Act.put, List.setIfInBounds_toArray, List.set_cons_zero, List.set_cons_succ])
          refine wpAnyH_take_at (i := 4) (v := ?v4k6) rfl (by kernel_rfl) (by kernel_rfl) (by kernel_rfl) (fun _ _ _ h => h) (Or.inl ⟨by rfl, ?y4k6⟩) hHeld ?r4k6
          case y4k6 => (intro w hSw; (try dsimp only at hSw); go_simp; first | done | with_reducible rfl)
          (try simp only [Act.put, List.setIfInBounds_toArray, List.set_cons_zero, List.set_cons_succ])
          refine wpAnyH_take_at (i := 5) (v := ?v5k6) rfl (by kernel_rfl) (by kernel_rfl) (by kernel_rfl) (fun _ _ _ h => h) (Or.inl ⟨by rfl, ?y5k6⟩) hHeld ?r5k6
          case y5k6 => (intro w hSw; (try dsimp only at hSw); go_simp; first | done | with_reducible rfl)
          (try simp only [Act.put, List.setIfInBounds_toArray, List.set_cons_zero, List.set_cons_succ])
          refine wpAnyH_take_at (i := 6) (v := ?v6k6) rfl (by kernel_rfl) (by kernel_rfl) (by kernel_rfl) (fun _ _ _ h => h) (Or.inl ⟨by rfl, ?y6k6⟩) hHeld ?r6k6
          case y6k6 => (intro w hSw; (try dsimp only at hSw); go_simp; first | done | with_reducible rfl)
          (try simp only [Act.put, List.setIfInBounds_toArray, List.set_cons_zero, List.set_cons_succ])
          refine wpAnyH_take_at (i := 7) (v := ?v7k6) rfl (by kernel_rfl) (by kernel_rfl) (by kernel_rfl) (fun _ _ _ h => h) (Or.inl ⟨by rfl, ?y7k6⟩) hHeld ?r7k6
          case y7k6 => (intro w hSw; (try dsimp only at hSw); go_simp; first | done | with_reducible rfl)
          (try simp only [Act.put, List.setIfInBounds_toArray, List.set_cons_zero, List.set_cons_succ])
          refine wpAnyH_take_at (i := 8) (v := ?v8k6) rfl (by kernel_rfl) (by kernel_rfl) (by kernel_rfl) (fun _ _ _ h => h) (Or.inl ⟨by rfl, ?y8k6⟩) hHeld ?r8k6
          case y8k6 => (intro w hSw; (try dsimp only at hSw); go_simp; first | done | with_reducible rfl)
          (try simp only [Act.put, List.setIfInBounds_toArray, List.set_cons_zero, List.set_cons_succ])
          refine wpAnyH_take_at (i := 10) (v := ?v10k6) rfl (by kernel_rfl) (by kernel_rfl) (by kernel_rfl) (fun _ _ _ h => h) (Or.inl ⟨by rfl, ?y10k6⟩) hHeld ?r10k6
          case y10k6 => (intro w hSw; (try dsimp only at hSw); go_simp; first | done | with_reducible rfl)
          (try simp only [Act.put, List.setIfInBounds_toArray, List.set_cons_zero, List.set_cons_succ])
          refine wpAnyH_take_at (i := 11) (v := ?v11k6) rfl (by kernel_rfl) (by kernel_rfl) (by kernel_rfl) (fun _ _ _ h => h) (Or.inl ⟨by rfl, ?y11k6⟩) hHeld ?r11k6
          case y11k6 => (intro w hSw; (try dsimp only at hSw); go_simp; first | done | with_reducible rfl)
          (try simp only [Act.put, List.setIfInBounds_toArray, List.set_cons_zero, List.set_cons_succ])
          refine wpAnyH_take_at (i := 12) (v := ?v12k6) rfl (by kernel_rfl) (by kernel_rfl) (by kernel_rfl) (fun _ _ _ h => h) (Or.inl ⟨by rfl, ?y12k6⟩) hHeld ?r12k6
          case y12k6 => (intro w hSw; (try dsimp only at hSw); go_simp; first | done | with_reducible rfl)
          (try simp only [Act.put, List.setIfInBounds_toArray, List.set_cons_zero, List.set_cons_succ])
          refine wpAnyH_take_at (i := 13) (v := ?v13k6) rfl (by kernel_rfl) (by kernel_rfl) (by kernel_rfl) (fun _ _ _ h => h) (Or.inl ⟨by rfl, ?y13k6⟩) hHeld ?r13k6
          case y13k6 => (intro w hSw; (try dsimp only at hSw); go_simp; first | done | with_reducible rfl)
          (try simp only [Act.put, List.setIfInBounds_toArray, List.set_cons_zero, List.set_cons_succ])
          refine wpAnyH_take_at (i := 14) (v := ?v14k6) rfl (by kernel_rfl) (by kernel_rfl) (by kernel_rfl) (fun _ _ _ h => h) (Or.inl ⟨by rfl, ?y14k6⟩) hHeld ?r14k6
          case y14k6 => (intro w hSw; (try dsimp only at hSw); go_simp; first | done | with_reducible rfl)
          (try simp only [Act.put, List.setIfInBounds_toArray, List.set_cons_zero, List.set_cons_succ])
          refine wpAnyH_take_at (i := 15) (v := ?v15k6) rfl (by kernel_rfl) (by kernel_rfl) (by kernel_rfl) (fun _ _ _ h => h) (Or.inl ⟨by rfl, ?y15k6⟩) hHeld ?r15k6
          case y15k6 => (intro w hSw; (try dsimp only at hSw); go_simp; first | done | with_reducible rfl)
          (try simp only [Act.put, List.setIfInBounds_toArray, List.set_cons_zero, List.set_cons_succ])
          refine wpAnyH_take_at (i := 16) (v := ?v16k6) rfl (by kernel_rfl) (by kernel_rfl) (by kernel_rfl) (fun _ _ _ h => h) (Or.inl ⟨by rfl, ?y16k6⟩) hHeld ?r16k6
          case y16k6 => (intro w hSw; (try dsimp only at hSw); go_simp; first | done | with_reducible rfl)
          (try simp only [Act.put, List.setIfInBounds_toArray, List.set_cons_zero, List.set_cons_succ])
          refine wpAnyH_take_at (i := 17) (v := ?v17k6) rfl (by kernel_rfl) (by kernel_rfl) (by kernel_rfl) (fun _ _ _ h => h) (Or.inl ⟨by rfl, ?y17k6⟩) hHeld ?r17k6
          case y17k6 => (intro w hSw; (try dsimp only at hSw); go_simp; first | done | with_reducible rfl)
          (try simp only [Act.put, List.setIfInBounds_toArray, List.set_cons_zero, List.set_cons_succ])
          refine wpAnyH_take_at (i := 18) (v := ?v18k6) rfl (by kernel_rfl) (by kernel_rfl) (by kernel_rfl) (fun _ _ _ h => h) (Or.inl ⟨by rfl, ?y18k6⟩) hHeld ?r18k6
          case y18k6 => (intro w hSw; (try dsimp only at hSw); go_simp; first | done | with_reducible rfl)
          (try simp only [Act.put, List.setIfInBounds_toArray, List.set_cons_zero, List.set_cons_succ])
          refine wpAnyH_one (i := 9) (by kernel_rfl) rfl (fun KK hK => ?_)
          go_simp
          refine (bless_spec hV0 hV6 HPA.out.1.bd PI.out.wf hj90 HX.out.1 HX.out.2.1 hc0 hc1).mono ?_
          rintro e wP ⟨rfl, hbP⟩
          go_simp
          obtain ⟨Fz, hbd, hmv⟩ := hbP.out
          have HPB : Hid (Pl W.heap.size wP db V B m (stepK V B o.a x y t s.st 6).2 ((s.calls : Int) + 1) Fz s.l (.slice (some ⟨lb, 0, none⟩) q lc) s.Rs (.slice (some ⟨rb, 0, none⟩) q rc) bs ∧ Mv W wP Fp Fz) := ⟨HPA.out.1.move hbd hmv, HPA.out.2.trans hmv⟩
          have hs6 := (HS9.out _ _ _ _ HPB.out.1).1
          clear hbd hmv hbP
          refine hK.out _ _ ?s9k6 (fun hHeld => ?_)
          case s9k6 => exact hs6
          clear hK KK
          (try simp only [Act.put, List.setIfInBounds_toArray, List.set_cons_zero, List.set_cons_succ])
          refine wpAnyH_one (i := 19) (by kernel_rfl) rfl (fun KK hK => ?_)
          go_simp
          refine (HIT.out _ X R0 Y fa f0 fb (HS9.out _ _ _ _ HPB.out.1).2.2.1.1 (HS9.out _ _ _ _ HPB.out.1).2.2.1.2.2.2.1 (HS9.out _ _ _ _ HPB.out.1).2.2.1.2.1).mono ?_
          rintro e wR ⟨nb, rfl, hnb⟩
          go_simp
          have HPCnb : Hid (Pl W.heap.size wR db V B m (stepK V B o.a x y t s.st 6).2 ((s.calls : Int) + 1) Fz s.l (.slice (some ⟨lb, 0, none⟩) q lc) s.Rs (.slice (some ⟨rb, 0, none⟩) q rc) bs ∧ Mv W wR Fp Fz) := ⟨HPB.out.1.quiet hnb.out.2.1, HPB.out.2.trans (Mv.quiet hnb.out.2.1)⟩
          have hs6nb := (HS9.out _ _ _ _ HPCnb.out.1).1
          refine hK.out _ _ ?s19k6 (fun hHeld => ?_)
          case s19k6 => exact hs6nb
          clear hK KK
          (try simp only [Act.put, List.setIfInBounds_toArray, List.set_cons_zero, List.set_cons_succ])
          refine wpAnyH_take_at (i := 20) (v := ?v20k6) rfl (by kernel_rfl) (by kernel_rfl) (by kernel_rfl) (fun _ _ _ h => h) (Or.inl ⟨by rfl, ?y20k6⟩) hHeld ?r20k6
          case y20k6 => (intro w hSw; (try dsimp only at hSw); go_simp; first | done | with_reducible rfl)
          (try simp only [Act.put, List.setIfInBounds_toArray, List.set_cons_zero, List.set_cons_succ])
          refine wpAnyH_take_at (i := 21) (v := ?v21k6) rfl (by kernel_rfl) (by kernel_rfl) (by kernel_rfl) (fun _ _ _ h => h) (Or.inl ⟨by rfl, ?y21k6⟩) hHeld ?r21k6
          case y21k6 => (intro w hSw; (try dsimp only at hSw); go_simp; first | done | with_reducible rfl)
          (try simp only [Act.put, List.setIfInBounds_toArray, List.set_cons_zero, List.set_cons_succ])
          refine wpAnyH_done (by kernel_rfl) ?_ _
          refine NoPanic.normal ?_
          clear hHeld H17
          have HPZ : Hid (Pl W.heap.size wR db V B m (stepK V B o.a x y t s.st 6).2 ((s.calls : Int) + 1) Fz s.l (.slice (some ⟨lb, 0, none⟩) q lc) s.Rs (.slice (some ⟨rb, 0, none⟩) q rc) bs ∧ Mv W wR Fp Fz ∧ RowAt wR nb m (rowK k o.a R0 R1 X Y T 6) ∧ ¬ Fz nb) := ⟨HPCnb.out.1, HPCnb.out.2, hnb.out.2.2, fun hf => by have := HPB.out.1.bd.lt nb hf; have := hnb.out.1; omega⟩
          obtain ⟨wZ, hwZ⟩ : ∃ wZ, wR = wZ := ⟨_, rfl⟩
          simp only [hwZ] at HPZ ⊢
          obtain ⟨nv, hnv⟩ : ∃ nv, (stepK V B o.a x y t s.st 6).1 = nv := ⟨_, rfl⟩
          have hnv2 : (opG s.st (iteT V B s.st x 0 y)).1 = nv := hnv
          rw [hnv2]
          rw [hnv] at HM
          clear hnv hnv2 hwZ
          have HL1 : Hid ((wZ.alloc (.cells #[.int .i64 nv] 3)).ownsRow 0 3 1 (.slice (some ⟨lb, 0, none⟩) q lc) q (numCells s.l)) := by
            have e := (HPZ.out.1.quiet ((Keeps.refl _ wZ).alloc (.cells #[.int .i64 nv] 3))).lo
            rw [hq] at e
            exact e
          have HL2 : Hid (∀ wC wD, (wZ.alloc (.cells #[.int .i64 nv] 3)).grownBy wC (Value.slice (some ⟨lb, 0, none⟩) q lc).ownBlock → Keeps (fun _ => False) wC wD → wD.ownsRow 0 35 1 (.slice (some ⟨rb, 0, none⟩) q rc) q (slCells m bs)) := fun wC wD g k => by
            have e := HPZ.out.1.ro_keep ((Keeps.refl _ wZ).alloc (.cells #[.int .i64 nv] 3)) g k
            rw [HPZ.out.1.l1, hq] at e
            exact e
          have HPUSH : Hid (∀ v1 w1 v2 w2, w1.ownsRow 0 3 1 v1 (q + 1) (numCells s.l ++ [.int .i64 nv]) → (wZ.alloc (.cells #[.int .i64 nv] 3)).grownBy w1 (Value.slice (some ⟨lb, 0, none⟩) q lc).ownBlock → (∀ x, v1.ownBlock = some x → (Value.slice (some ⟨lb, 0, none⟩) q lc).ownBlock = some x ∨ wZ.heap.size + 1 ≤ x) →
              w2.ownsRow 0 35 1 v2 (q + 1) (slCells m bs ++ [.slice (some ⟨nb, 0, none⟩) m m]) → (w1.alloc (.cells #[.slice (some ⟨nb, 0, none⟩) m m] 35)).grownBy w2 (Value.slice (some ⟨rb, 0, none⟩) q rc).ownBlock → (∀ x, v2.ownBlock = some x → (Value.slice (some ⟨rb, 0, none⟩) q rc).ownBlock = some x ∨ w1.heap.size + 1 ≤ x) →
              Pl W.heap.size w2 db V B m (playTo V B k os (j + 1)).st (playTo V B k os (j + 1)).calls Fz (playTo V B k os (j + 1)).l v1 (playTo V B k os (j + 1)).Rs v2 (bs ++ [nb]) ∧ Mv W w2 Fp Fz) := fun v1 w1 v2 w2 o1 g1 z1 o2 g2 z2 => by
            obtain ⟨p1, p2, p3, p4⟩ := HPZ.out
            have hl := p1.l1
            rw [hq] at hl
            obtain ⟨q1, S, q2, q3⟩ := p1.push p2.keeps.size p3 p4 ((Keeps.refl _ wZ).alloc (.cells #[.int .i64 nv] 3)) (by rw [hq]; exact o1) g1 (fun x hx => (z1 x hx).imp_right (fun h => by simpa using h)) ((Keeps.refl _ w1).alloc (.cells #[.slice (some ⟨nb, 0, none⟩) m m] 35)) (by rw [hl]; exact o2) g2 (fun x hx => (z2 x hx).imp_right (fun h => by simpa using h))
            refine ⟨?_, p2.old q2 (fun k hk => (q3 k hk).2)⟩
            rw [HM.out]
            exact q1
          have HCALLS : Hid ((((playTo V B k os (j + 1)).calls : Nat) : Int) = (s.calls : Int) + 1) := by
            rw [HM.out]
            show ((s.calls + 1 : Nat) : Int) = _
            omega
          have HNB := Lib.hid HPZ.out.2.2
          clear HPZ HM HMODEL HS9 HX HIT
          go_upto_region 29 with fail
          go_wp2_with (at_builtin; refine wpList_append_fp _ rfl _ _ 27 rfl 3 i0 _ 1 8 Try.underlying27 hi0 hz0 hz1 hz2 rfl (by decide) _ q (numCells s.l) rfl HL1.out ⟨wZ.heap.size, 0, none⟩ 1 1 [.int .i64 nv] rfl rfl (cells_new wZ _ _) (by intro u hu; simp only [List.mem_cons, List.not_mem_nil, or_false] at hu; subst hu; rfl) (by omega) (by unfold maxLen; omega) (by omega) ?_)
          intro v1 w1 ho1 hg1 hf1
          have HL3 := Lib.hid (HL2.out w1 (w1.alloc (.cells #[.slice (some ⟨nb, 0, none⟩) m m] 35)) hg1 ((Keeps.refl _ _).alloc _))
          have HPU2 := Lib.hid (fun v2 w2 => HPUSH.out v1 w1 v2 w2 ho1 hg1 hf1)
          clear HL1 HL2 HPUSH ho1 hg1 hf1
          go_wp2_with (at_builtin; refine wpList_append_fp _ rfl _ _ 28 rfl 35 i9 _ 1 24 Try.underlying28 hi9 hy0 hy1 hy2 rfl (by decide) _ q (slCells m bs) rfl HL3.out ⟨w1.heap.size, 0, none⟩ 1 1 [.slice (some ⟨nb, 0, none⟩) m m] rfl rfl (cells_new w1 _ _) (by intro u hu; simp only [List.mem_cons, List.not_mem_nil, or_false] at hu; subst hu; rfl) (by omega) (by unfold maxLen; omega) (by omega) ?_)
          intro v2 w2 ho2 hg2 hf2
          have HREL := Lib.hid (HPU2.out v2 w2 ho2 hg2 hf2)
          clear HPU2 HL3 ho2 hg2 hf2
          go_wp2_with fail
          go_roundg (n - (j + 1))
          case measure => omega
          case rel => exact ⟨j + 1, bs ++ [nb], Fz, by omega, by omega, rfl, congrArg (Value.int .i64) HCALLS.out.symm, by go_num, HREL.out.1, HREL.out.2⟩
        · as_aux_lemma =>
          have mk : ((o.kind : Int)).tmod 8 = 7 := by rw [Int.tmod_eq_emod_of_nonneg (by omega)]; omega
          have HM := Lib.hid (HMODEL.out 7 h8)
          clear y1
          go_wp2_with fail
          refine (band_spec hV0 hV6 HP0.out.1.bd PI.out.wf hj90 (l := []) (by simp) (so := none) (n := 0) (cap := 0) rfl (Nat.le_refl _) (by omega) (fun h => absurd h (Nat.lt_irrefl _)) (by simp) hc0 hc1).mono ?_
          rintro e wP ⟨rfl, hbP⟩
          obtain ⟨Fz, hbd, hmv⟩ := hbP.out
          have HPB : Hid (Pl W.heap.size wP db V B m (stepK V B o.a x y t s.st 7).2 ((s.calls : Int) + 0) Fz s.l (.slice (some ⟨lb, 0, none⟩) q lc) s.Rs (.slice (some ⟨rb, 0, none⟩) q rc) bs ∧ Mv W wP Fp Fz) := ⟨HP0.out.1.move hbd hmv, HP0.out.2.trans hmv⟩
          clear hbd hmv hbP HP0
          have HPCnb : Hid (Pl W.heap.size wP db V B m (stepK V B o.a x y t s.st 7).2 ((s.calls : Int) + 0) Fz s.l (.slice (some ⟨lb, 0, none⟩) q lc) s.Rs (.slice (some ⟨rb, 0, none⟩) q rc) bs ∧ Mv W wP Fp Fz) := HPB.out
          have HPZ : Hid (Pl W.heap.size wP db V B m (stepK V B o.a x y t s.st 7).2 ((s.calls : Int) + 0) Fz s.l (.slice (some ⟨lb, 0, none⟩) q lc) s.Rs (.slice (some ⟨rb, 0, none⟩) q rc) bs ∧ Mv W wP Fp Fz ∧ RowAt wP f1 m (rowK k o.a R0 R1 X Y T 7) ∧ ¬ Fz f1) := ⟨HPB.out.1, HPB.out.2, (HS9.out _ _ _ _ HPB.out.1).2.2.1.2.2.2.2, (HS9.out _ _ _ _ HPB.out.1).2.2.2⟩
          obtain ⟨wZ, hwZ⟩ : ∃ wZ, wP = wZ := ⟨_, rfl⟩
          simp only [hwZ] at HPZ ⊢
          obtain ⟨nv, hnv⟩ : ∃ nv, (stepK V B o.a x y t s.st 7).1 = nv := ⟨_, rfl⟩
          have hnv2 : (opG s.st (andT V B [] (1, s.st))).1 = nv := hnv
          rw [hnv2]
          rw [hnv] at HM
          clear hnv hnv2 hwZ
          have HL1 : Hid ((wZ.alloc (.cells #[.int .i64 nv] 3)).ownsRow 0 3 1 (.slice (some ⟨lb, 0, none⟩) q lc) q (numCells s.l)) := by
            have e := (HPZ.out.1.quiet ((Keeps.refl _ wZ).alloc (.cells #[.int .i64 nv] 3))).lo
            rw [hq] at e
            exact e
          have HL2 : Hid (∀ wC wD, (wZ.alloc (.cells #[.int .i64 nv] 3)).grownBy wC (Value.slice (some ⟨lb, 0, none⟩) q lc).ownBlock → Keeps (fun _ => False) wC wD → wD.ownsRow 0 35 1 (.slice (some ⟨rb, 0, none⟩) q rc) q (slCells m bs)) := fun wC wD g k => by
            have e := HPZ.out.1.ro_keep ((Keeps.refl _ wZ).alloc (.cells #[.int .i64 nv] 3)) g k
            rw [HPZ.out.1.l1, hq] at e
            exact e
          have HPUSH : Hid (∀ v1 w1 v2 w2, w1.ownsRow 0 3 1 v1 (q + 1) (numCells s.l ++ [.int .i64 nv]) → (wZ.alloc (.cells #[.int .i64 nv] 3)).grownBy w1 (Value.slice (some ⟨lb, 0, none⟩) q lc).ownBlock → (∀ x, v1.ownBlock = some x → (Value.slice (some ⟨lb, 0, none⟩) q lc).ownBlock = some x ∨ wZ.heap.size + 1 ≤ x) →
              w2.ownsRow 0 35 1 v2 (q + 1) (slCells m bs ++ [.slice (some ⟨f1, 0, none⟩) m m]) → (w1.alloc (.cells #[.slice (some ⟨f1, 0, none⟩) m m] 35)).grownBy w2 (Value.slice (some ⟨rb, 0, none⟩) q rc).ownBlock → (∀ x, v2.ownBlock = some x → (Value.slice (some ⟨rb, 0, none⟩) q rc).ownBlock = some x ∨ w1.heap.size + 1 ≤ x) →
              Pl W.heap.size w2 db V B m (playTo V B k os (j + 1)).st (playTo V B k os (j + 1)).calls Fz (playTo V B k os (j + 1)).l v1 (playTo V B k os (j + 1)).Rs v2 (bs ++ [f1]) ∧ Mv W w2 Fp Fz) := fun v1 w1 v2 w2 o1 g1 z1 o2 g2 z2 => by
            obtain ⟨p1, p2, p3, p4⟩ := HPZ.out
            have hl := p1.l1
            rw [hq] at hl
            obtain ⟨q1, S, q2, q3⟩ := p1.push p2.keeps.size p3 p4 ((Keeps.refl _ wZ).alloc (.cells #[.int .i64 nv] 3)) (by rw [hq]; exact o1) g1 (fun x hx => (z1 x hx).imp_right (fun h => by simpa using h)) ((Keeps.refl _ w1).alloc (.cells #[.slice (some ⟨f1, 0, none⟩) m m] 35)) (by rw [hl]; exact o2) g2 (fun x hx => (z2 x hx).imp_right (fun h => by simpa using h))
            refine ⟨?_, p2.old q2 (fun k hk => (q3 k hk).2)⟩
            rw [HM.out]
            exact q1
          have HCALLS : Hid ((((playTo V B k os (j + 1)).calls : Nat) : Int) = (s.calls : Int) + 0) := by
            rw [HM.out]
            show ((s.calls + 0 : Nat) : Int) = _
            omega
          have HNB := Lib.hid HPZ.out.2.2
          clear HPZ HM HMODEL HS9 HX HIT
          go_upto_region 29 with fail
          go_wp2_with (at_builtin; refine wpList_append_fp _ rfl _ _ 27 rfl 3 i0 _ 1 8 Try.underlying27 hi0 hz0 hz1 hz2 rfl (by decide) _ q (numCells s.l) rfl HL1.out ⟨wZ.heap.size, 0, none⟩ 1 1 [.int .i64 nv] rfl rfl (cells_new wZ _ _) (by intro u hu; simp only [List.mem_cons, List.not_mem_nil, or_false] at hu; subst hu; rfl) (by omega) (by unfold maxLen; omega) (by omega) ?_)
          intro v1 w1 ho1 hg1 hf1
          have HL3 := Lib.hid (HL2.out w1 (w1.alloc (.cells #[.slice (some ⟨f1, 0, none⟩) m m] 35)) hg1 ((Keeps.refl _ _).alloc _))
          have HPU2 := Lib.hid (fun v2 w2 => HPUSH.out v1 w1 v2 w2 ho1 hg1 hf1)
          clear HL1 HL2 HPUSH ho1 hg1 hf1
          go_wp2_with (at_builtin; refine wpList_append_fp _ rfl _ _ 28 rfl 35 i9 _ 1 24 Try.underlying28 hi9 hy0 hy1 hy2 rfl (by decide) _ q (slCells m bs) rfl HL3.out ⟨w1.heap.size, 0, none⟩ 1 1 [.slice (some ⟨f1, 0, none⟩) m m] rfl rfl (cells_new w1 _ _) (by intro u hu; simp only [List.mem_cons, List.not_mem_nil, or_false] at hu; subst hu; rfl) (by omega) (by unfold maxLen; omega) (by omega) ?_)
          intro v2 w2 ho2 hg2 hf2
          have HREL := Lib.hid (HPU2.out v2 w2 ho2 hg2 hf2)
          clear HPU2 HL3 ho2 hg2 hf2
          go_wp2_with fail
          go_roundg (n - (j + 1))
          case measure => omega
          case rel => exact ⟨j + 1, bs ++ [f1], Fz, by omega, by omega, rfl, congrArg (Value.int .i64) HCALLS.out.symm, by go_num, HREL.out.1, HREL.out.2⟩
    · have hjE : j = n := by omega
      have hjI : ¬ (j : Int) < (n : Int) := by omega
      have HEND : Hid (playM V B k os = playTo V B k os j) := by
        show (os.take 30).foldl _ _ = (os.take j).foldl _ _
        rw [List.take_of_length_le (by omega), List.take_of_length_le (by omega)]
      clear hjE
      go_wp2_with fail
      refine bodyPost_ret (v := .tuple #[u9, u10, .int .i64 ((playTo V B k os j).calls : Int)]) (by simp [results, Try.results8, go_sem]) rfl ?_
      rw [HEND.out]
      exact ⟨_, _, bs, Fy, rfl, HPL.out.1, HPL.out.2⟩
end Go.Proofs.Ytloidoekmicloaa
