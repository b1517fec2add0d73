/-
  Pairs sorted: the closure, and the sort.
-/
import Derived.Test.YtaabmkebbnkonaaDoorLiveLay
import Derived.Deep.LoopGhost
import Derived.Deep.RegionHeld3
set_option linter.unusedVariables false
set_option linter.unusedSimpArgs false
set_option linter.unnecessarySimpa false
namespace Go.Proofs.YtaabmkebbnkonaaDoor
open Go.ChangeShapes Go.WideShapes Go.ChangeAt Go.RowKit Go.Deep SetPlain
set_option maxRecDepth 100000
set_option maxHeartbeats 3200000
def cmpI (x y : Nat) : Int := if x < y then -1 else if y < x then 1 else 0
/-- By rows, then by numbers. -/
def cmpP (x y : Nat × Nat) : Int := if x.1 < y.1 then -1 else if y.1 < x.1 then 1 else cmpI x.2 y.2
theorem isnan_spec (x : Int) (w : World) : Calls Tryd.prog 69 #[.int .i64 x] w fun e w' => e = .returned (.bool false) ∧ w = w' := by
  go_enter Tryd.func69, Tryd.ntmps69
  go_wp2_with fail
  go_ret
  exact ⟨rfl, rfl⟩
theorem compare_spec (x y : Nat) (w : World) : Calls Tryd.prog 58 #[.int .i64 x, .int .i64 y] w fun e w' => e = .returned (.int .i64 (cmpI x y)) ∧ w = w' := by
  have HX := Lib.hid (isnan_spec x w)
  have HY := Lib.hid (isnan_spec y w)
  unfold cmpI
  by_cases h1 : x < y
  · have h1I : (x : Int) < (y : Int) := by omega
    rw [if_pos h1]
    go_enter Tryd.func58, Tryd.ntmps58
    go_wp2_with fail
    refine HX.out.mono ?_
    rintro e w' ⟨rfl, rfl⟩
    go_wp2_with fail
    refine HY.out.mono ?_
    rintro e w' ⟨rfl, rfl⟩
    go_wp2_with fail
    go_ret
    exact ⟨rfl, rfl⟩
  · have h1I : ¬ (x : Int) < (y : Int) := by omega
    rw [if_neg h1]
    by_cases h2 : y < x
    · have h2I : (y : Int) < (x : Int) := by omega
      rw [if_pos h2]
      go_enter Tryd.func58, Tryd.ntmps58
      go_wp2_with fail
      refine HX.out.mono ?_
      rintro e w' ⟨rfl, rfl⟩
      go_wp2_with fail
      refine HY.out.mono ?_
      rintro e w' ⟨rfl, rfl⟩
      go_wp2_with fail
      go_ret
      exact ⟨rfl, rfl⟩
    · have h2I : ¬ (y : Int) < (x : Int) := by omega
      rw [if_neg h2]
      go_enter Tryd.func58, Tryd.ntmps58
      go_wp2_with fail
      refine HX.out.mono ?_
      rintro e w' ⟨rfl, rfl⟩
      go_wp2_with fail
      refine HY.out.mono ?_
      rintro e w' ⟨rfl, rfl⟩
      go_wp2_with fail
      go_ret
      exact ⟨rfl, rfl⟩
theorem compare2_spec {w : World} {a b : Nat} (x y : Nat × Nat) (a0 : w.cell? ⟨a, 0, none⟩ = some (.int .i64 (x.1 : Int))) (a1 : w.cell? ⟨a, 1, none⟩ = some (.int .i64 (x.2 : Int))) (b0 : w.cell? ⟨b, 0, none⟩ = some (.int .i64 (y.1 : Int))) (b1 : w.cell? ⟨b, 1, none⟩ = some (.int .i64 (y.2 : Int))) :
    Calls Tryd.prog 53 #[.slice (some ⟨a, 0, none⟩) 2 2, .slice (some ⟨b, 0, none⟩) 2 2] w fun e w' => e = .returned (.int .i64 (cmpP x y)) ∧ w = w' := by
  have H1 := Lib.hid (compare_spec x.1 y.1 w)
  have H2 := Lib.hid (compare_spec x.2 y.2 w)
  have HP : Hid (∀ v, cmpI x.1 y.1 = v → (v ≠ 0 → cmpP x y = v) ∧ (v = 0 → cmpP x y = cmpI x.2 y.2)) := fun v hv => by
    unfold cmpP cmpI at *
    by_cases h1 : x.1 < y.1
    · rw [if_pos h1] at hv ⊢; subst hv; exact ⟨fun _ => rfl, fun h => absurd h (by decide)⟩
    · rw [if_neg h1] at hv ⊢
      by_cases h2 : y.1 < x.1
      · rw [if_pos h2] at hv ⊢; subst hv; exact ⟨fun _ => rfl, fun h => absurd h (by decide)⟩
      · rw [if_neg h2] at hv ⊢; subst hv; exact ⟨fun h => absurd rfl h, fun _ => rfl⟩
  obtain ⟨v1, hv1⟩ : ∃ v, cmpI x.1 y.1 = v := ⟨_, rfl⟩
  obtain ⟨v2, hv2⟩ : ∃ v, cmpI x.2 y.2 = v := ⟨_, rfl⟩
  have HQ := Lib.hid (HP.out v1 hv1)
  rw [hv2] at HQ
  rw [hv1] at H1
  rw [hv2] at H2
  obtain ⟨x1, x2⟩ := x
  obtain ⟨y1, y2⟩ := y
  generalize cmpP (x1, x2) (y1, y2) = res at HQ ⊢
  simp only [] at a0 a1 b0 b1 H1 H2
  clear HP hv1 hv2
  go_enter Tryd.func53, Tryd.ntmps53
  go_wp2_with fail
  go_loopg [11] 2 (fun g t wy => wy = w ∧ ((g = 2 ∧ t = .int .i64 0) ∨ (g = 1 ∧ t = .int .i64 1 ∧ Hid (v1 = 0)) ∨ (g = 0 ∧ t = .int .i64 2 ∧ Hid (v1 = 0) ∧ Hid (v2 = 0))))
  case atStart => exact ⟨rfl, .inl ⟨rfl, rfl⟩⟩
  case round =>
    obtain ⟨rfl, ⟨rfl, rfl⟩ | ⟨rfl, rfl, HZ⟩ | ⟨rfl, rfl, HZ, HZ2⟩⟩ := hrel
    · go_wp2_with fail
      refine H1.out.mono ?_
      rintro e w' ⟨rfl, rfl⟩
      by_cases hz : v1 = 0
      · have HZ := Lib.hid hz
        subst hz
        go_wp2_with fail
        go_roundg 1
        case measure => omega
        case rel => exact ⟨rfl, .inr (.inl ⟨rfl, rfl, by first | exact HZ | exact trivial⟩)⟩
      · have e1 : (v1 != 0) = true := by simpa using hz
        have e2 : decide (v1 = 0) = false := decide_eq_false hz
        have HR := Lib.hid (HQ.out.1 hz)
        clear hz
        go_wp2_with fail
        go_ret
        exact ⟨by rw [HR.out]; rfl, rfl⟩
    · go_wp2_with fail
      refine H2.out.mono ?_
      rintro e w' ⟨rfl, rfl⟩
      by_cases hz : v2 = 0
      · subst hz
        go_wp2_with fail
        go_roundg 0
        case measure => omega
        case rel => exact ⟨rfl, .inr (.inr ⟨rfl, rfl, HZ, by first | exact trivial | exact rfl⟩)⟩
      · have e1 : (v2 != 0) = true := by simpa using hz
        have e2 : decide (v2 = 0) = false := decide_eq_false hz
        have HR := Lib.hid (HQ.out.2 HZ.out)
        clear hz
        go_wp2_with fail
        go_ret
        exact ⟨by rw [HR.out]; rfl, rfl⟩
    · have HR := Lib.hid ((HQ.out.2 HZ.out).trans HZ2.out)
      go_wp2_with fail
      go_ret
      exact ⟨by rw [HR.out]; rfl, rfl⟩
def encP (x : Nat × Nat) : List Value := [.int .i64 (x.1 : Int), .int .i64 (x.2 : Int)]
theorem compare_clos (x y : Nat × Nat) (W : World) : Calls Tryd.prog 52 #[.agg (encP x).toArray, .agg (encP y).toArray] W fun e w' => e = .returned (.int .i64 (cmpP x y)) ∧ ∃ q os', w' = Go.Sort.grow (W.drewN q) os' := by
  obtain ⟨x1, x2⟩ := x
  obtain ⟨y1, y2⟩ := y
  obtain ⟨w2, hw2⟩ : ∃ w2, ((W.alloc (.cells #[.int .i64 (x1 : Int), .int .i64 (x2 : Int)] 22)).alloc (.cells #[.int .i64 (y1 : Int), .int .i64 (y2 : Int)] 22)) = w2 := ⟨_, rfl⟩
  have h1 := (MapKept.heap_alloc W (.cells #[.int .i64 (x1 : Int), .int .i64 (x2 : Int)] 22)).1
  have hs : (W.alloc (.cells #[.int .i64 (x1 : Int), .int .i64 (x2 : Int)] 22)).heap.size = W.heap.size + 1 := by simp
  have h2 := (MapKept.heap_alloc (W.alloc (.cells #[.int .i64 (x1 : Int), .int .i64 (x2 : Int)] 22)) (.cells #[.int .i64 (y1 : Int), .int .i64 (y2 : Int)] 22)).1
  have k2 : Keeps (fun _ => False) (W.alloc (.cells #[.int .i64 (x1 : Int), .int .i64 (x2 : Int)] 22)) ((W.alloc (.cells #[.int .i64 (x1 : Int), .int .i64 (x2 : Int)] 22)).alloc (.cells #[.int .i64 (y1 : Int), .int .i64 (y2 : Int)] 22)) := (Keeps.refl _ _).alloc _
  have h1' := (k2.block _ (lt_of_heap h1) (fun x => x)).trans h1
  rw [hs] at h2
  rw [hw2] at h1' h2
  have HG : Hid (∀ n, ∃ q os', w2.drewN n = Go.Sort.grow (W.drewN q) os') := fun n => ⟨n, _, by
    rw [← hw2, Go.Sort.alloc_eq_grow, Go.Sort.alloc_eq_grow, Go.Sort.grow_grow]
    rfl⟩
  have HC : Hid (∀ n, Calls Tryd.prog 53 #[.slice (some ⟨W.heap.size, 0, none⟩) 2 2, .slice (some ⟨W.heap.size + 1, 0, none⟩) 2 2] (w2.drewN n) fun e w' => e = .returned (.int .i64 (cmpP (x1, x2) (y1, y2))) ∧ w2.drewN n = w') := fun n => by
    have kk : Keeps (fun _ => False) w2 (w2.drewN n) := (Keeps.refl _ _).drewN n
    have e1 := (kk.block _ (lt_of_heap h1') (fun x => x)).trans h1'
    have e2 := (kk.block _ (lt_of_heap h2) (fun x => x)).trans h2
    exact compare2_spec (x1, x2) (y1, y2) (by rw [cell_of_heap e1]; rfl) (by rw [cell_of_heap e1]; rfl) (by rw [cell_of_heap e2]; rfl) (by rw [cell_of_heap e2]; rfl)
  obtain ⟨res, hres⟩ : ∃ r, cmpP (x1, x2) (y1, y2) = r := ⟨_, rfl⟩
  rw [hres] at HC
  rw [hres]
  show Calls Tryd.prog 52 #[.agg #[.int .i64 (x1 : Int), .int .i64 (x2 : Int)], .agg #[.int .i64 (y1 : Int), .int .i64 (y2 : Int)]] W _
  clear h1 h2 hs k2 h1' hres
  go_enter Tryd.func52, Tryd.ntmps52
  go_upto_region 1 with fail
  (try simp only [hw2])
  clear hw2
  refine wp_region_noPanic ?_
  refine wp_region_held_drew (S := (fun w' => w' = w2.drew)) (by kernel_rfl) rfl (fun hHeld => ?_)
  refine wpAnyH_take_at (i := 0) (v := ?v0) rfl (by kernel_rfl) (by kernel_rfl) (by kernel_rfl) (fun _ _ _ h => h) (Or.inl ⟨by rfl, ?y0⟩) hHeld ?r0
  case y0 => (intro w hSw; (try dsimp only at hSw); go_simp; first | done | with_reducible rfl)
  (try simp only [Act.put, List.setIfInBounds_toArray, List.set_cons_zero, List.set_cons_succ])
  refine wpAnyH_take_at (i := 1) (v := ?v1) rfl (by kernel_rfl) (by kernel_rfl) (by kernel_rfl) (fun _ _ _ h => h) (Or.inl ⟨by rfl, ?y1⟩) hHeld ?r1
  case y1 => (intro w hSw; (try dsimp only at hSw); go_simp; first | done | with_reducible rfl)
  (try simp only [Act.put, List.setIfInBounds_toArray, List.set_cons_zero, List.set_cons_succ])
  refine wpAnyH_one (i := 2) (by kernel_rfl) rfl (fun KK hK => ?_)
  go_simp
  refine (HC.out 1).mono ?_
  rintro e wL ⟨rfl, rfl⟩
  go_simp
  refine hK.out _ _ ?s2 (fun hHeld => ?_)
  case s2 => rfl
  clear hK KK
  (try simp only [Act.put, List.setIfInBounds_toArray, List.set_cons_zero, List.set_cons_succ])
  refine wpAnyH_take_at (i := 3) (v := ?v3) rfl (by kernel_rfl) (by kernel_rfl) (by kernel_rfl) (fun _ _ _ h => h) (Or.inl ⟨by rfl, ?y3⟩) hHeld ?r3
  case y3 => (intro w hSw; (try dsimp only at hSw); go_simp; first | done | with_reducible rfl)
  (try simp only [Act.put, List.setIfInBounds_toArray, List.set_cons_zero, List.set_cons_succ])
  refine wpAnyH_done (by kernel_rfl) ?_ _
  refine NoPanic.normal ?_
  clear hHeld HC
  go_wp2_with fail
  go_ret
  exact ⟨rfl, HG.out 1⟩
open Go.Sort in
theorem ltP (x y : Nat × Nat) : ltOf cmpP x y = decide (x.1 < y.1 ∨ (x.1 = y.1 ∧ x.2 < y.2)) := by
  unfold ltOf cmpP cmpI
  by_cases h1 : x.1 < y.1
  · simp [h1]
  · by_cases h2 : y.1 < x.1
    · rw [if_neg h1, if_pos h2]
      have : ¬ (x.1 < y.1 ∨ (x.1 = y.1 ∧ x.2 < y.2)) := by omega
      simp [this]
    · rw [if_neg h1, if_neg h2]
      have e : x.1 = y.1 := by omega
      by_cases h3 : x.2 < y.2
      · rw [if_pos h3]; simp [e, h3]
      · rw [if_neg h3]
        by_cases h4 : y.2 < x.2 <;> simp [e, h3, h4]
open Go.Sort in
theorem swoP : SWO (ltOf cmpP) where
  irrefl x := by rw [ltP]; simp
  trans x y z h1 h2 := by rw [ltP] at *; simp at *; omega
  ntrans x y z h1 h2 := by rw [ltP] at *; simp at *; omega
open Go.Sort in
theorem totP (x y : Nat × Nat) (h1 : ltOf cmpP x y = false) (h2 : ltOf cmpP y x = false) : x = y := by
  rw [ltP] at h1 h2
  have h1 := of_decide_eq_false h1
  have h2 := of_decide_eq_false h2
  obtain ⟨a, b⟩ := x
  obtain ⟨c, d⟩ := y
  simp only [] at h1 h2
  have e1 : a = c := by omega
  have e2 : b = d := by omega
  rw [e1, e2]
open Go.Sort in
/-- Pairs in order. -/
def sortP (L : List (Nat × Nat)) : List (Nat × Nat) := L.mergeSort fun x y => !(ltOf cmpP) y x
theorem sortP_len (L : List (Nat × Nat)) : (sortP L).length = L.length := by unfold sortP; simp
theorem sortP_mem (L : List (Nat × Nat)) (x : Nat × Nat) : x ∈ sortP L ↔ x ∈ L := by unfold sortP; exact (List.mergeSort_perm L _).mem_iff
theorem sortP_nodup {L : List (Nat × Nat)} (h : L.Nodup) : (sortP L).Nodup := by unfold sortP; exact (List.mergeSort_perm L _).nodup_iff.2 h
open Go.Sort in
theorem sortP_sorted (L : List (Nat × Nat)) : (sortP L).Pairwise (fun x y => ltOf cmpP y x = false) := by
  have h := List.pairwise_mergeSort (le := fun x y => !(ltOf cmpP) y x) (fun a b c h1 h2 => by
    simp only [Bool.not_eq_true'] at h1 h2 ⊢
    exact swoP.ntrans c b a h2 h1) (fun a b => by
    rw [ltP, ltP]
    simp only [Bool.or_eq_true, Bool.not_eq_true', decide_eq_false_iff_not]
    omega) L
  exact h.imp (fun h => by simpa using h)
open Go.Sort in
theorem holdsP {W : World} {g o cap : Nat} {L : List (Nat × Nat)} {cur : Array Value} (hh : W.heap[g]? = some (.cells cur 22 (0, 0))) (ht : ∀ j u, (pcs L)[j]? = some u → cur[o + j]? = some u) : HoldsK encP 2 W g o L.toArray := by
  intro j hj
  have hj' : j < L.length * 2 := by simpa using hj
  refine ⟨?_, free_of_heap hh _⟩
  rw [cell_of_heap hh]
  obtain ⟨p, hp⟩ : ∃ p, L[j / 2]? = some p := ⟨_, List.getElem?_eq_getElem (by omega)⟩
  have e0 : (flatK encP 2 L.toArray)[j]! = (encP p)[j % 2]! := by
    rw [get_flatK _ _ _ _ (by simpa using hj')]
    have : L.toArray[j / 2]! = p := by
      rw [getElem!_def]
      simp [hp]
    rw [this]
  show cur[o + j]? = some ((flatK encP 2 L.toArray)[j]!)
  rw [e0]
  refine ht j _ ?_
  obtain ⟨q1, q2⟩ := pcs_get L (j / 2) p hp
  rcases Nat.mod_two_eq_zero_or_one j with hm | hm
  · rw [hm, show j = j / 2 * 2 by omega, q1]; rfl
  · rw [hm, show j = j / 2 * 2 + 1 by omega, q2]; rfl
open Go.Sort in
theorem sorted_spec {W : World} {v : Value} {L : List (Nat × Nat)} (h : TlP W v L) (hl : L.length ≤ 1000000) :
    Calls Tryd.prog 42 #[v] W fun e W' => e = .returned v ∧ Hid (Keeps (fun k => v.ownBlock = some k) W W' ∧ ReadsP W' v (sortP L)) := by
  obtain ⟨hlx, ⟨rfl, hn0⟩ | ⟨g, o, cap, cur, rfl, hh, hle, hmx, hsz0, ht⟩⟩ := h
  · obtain rfl : L = [] := List.eq_nil_of_length_eq_zero hn0
    have hcon := AnyF.slices_SortFunc_none sortPLays none 0 (.func (.func 52) #[] #[]) W
    change Calls Tryd.prog 51 _ _ _ at hcon
    have HC := Lib.hid hcon
    have HP : Hid (Keeps (fun k => (Value.slice none 0 0).ownBlock = some k) W W ∧ ReadsP W (.slice none 0 0) (sortP [])) := ⟨Keeps.refl _ _, none, 0, by rw [sortP_len]; rfl, by rw [sortP_len]; exact Nat.le_refl _, fun h => absurd h (by rw [sortP_len]; exact Nat.lt_irrefl _)⟩
    clear hcon hlx hn0
    go_enter Tryd.func42, Tryd.ntmps42
    go_wp2_with (go_at_call 51; refine HC.out.mono ?_; rintro e w' ⟨rfl, rfl⟩)
    go_ret
    exact ⟨rfl, HP⟩
  · have hg := lt_of_heap hh
    have hH := holdsP (cap := cap) hh ht
    have eg : ∀ args w, (callFunc 52 args).run Tryd.prog w = .ok (.enter 52 args) w := enters_of Tryd.func52 (by kernel_rfl) rfl
    have hcon := AnyQ.slices_SortFunc_total sortPLays 2 Tryd.isAgg22 Tryd.sizeOf22 encP (fun _ => rfl) (fun x v hv => by simp [encP] at hv; rcases hv with rfl | rfl <;> rfl) cmpP swoP 52 #[] g o cap L.toArray W eg (fun m os dk _ x y => compare_clos x y _) hH hg (by simp; omega) totP
    change Calls Tryd.prog 51 _ _ _ at hcon
    have hsz : L.toArray.size = L.length := by simp
    rw [hsz] at hcon
    have HF : Hid (∀ n os, Keeps (fun k => (Value.slice (some ⟨g, o, none⟩) L.length cap).ownBlock = some k) W (sortWorldK encP 2 W g o n (L.toArray.toList.mergeSort fun x y => !(ltOf cmpP) y x).toArray os) ∧ ReadsP (sortWorldK encP 2 W g o n (L.toArray.toList.mergeSort fun x y => !(ltOf cmpP) y x).toArray os) (.slice (some ⟨g, o, none⟩) L.length cap) (sortP L)) := fun n os => by
      rw [show L.toArray.toList = L from rfl]
      have hs : (sortP L).toArray.size = L.toArray.size := by simp [sortP_len]
      show _ ∧ ReadsP (sortWorldK encP 2 W g o n (sortP L).toArray os) _ _
      have hg2 : g < (putRowK encP 2 (Go.Sort.ahead W n) g o (sortP L).toArray).heap.size := by
        unfold putRowK
        rw [Go.Sort.size_putRow]; exact hg
      have hh2 := holdsK_grow encP 2 (putRowK encP 2 (Go.Sort.ahead W n) g o (sortP L).toArray) os g o _ hg2 (holdsK_putRowK encP 2 (Go.Sort.ahead W n) g o L.toArray (sortP L).toArray (holdsK_ahead encP 2 W n g o _ hH) hs)
      refine ⟨⟨rfl, rfl, rfl, ?_, fun k hk hq => ?_⟩, ?_⟩
      · show W.heap.size ≤ (Go.Sort.grow _ os).heap.size
        rw [Go.Sort.size_grow]
        unfold putRowK
        rw [Go.Sort.size_putRow]
        show W.heap.size ≤ W.heap.size + _
        omega
      · show (Go.Sort.grow (putRowK encP 2 (Go.Sort.ahead W n) g o (sortP L).toArray) os).heap[k]? = _
        rw [Go.Sort.heap_grow_old _ _ (by unfold putRowK; rw [Go.Sort.size_putRow]; exact hk)]
        show (W.heap.modify g _)[k]? = W.heap[k]?
        rw [Array.getElem?_modify, if_neg (fun e => hq (by rw [← e]; rfl))]
      · refine ⟨_, cap, by rw [sortP_len], by rw [sortP_len]; exact hle, fun _ => ⟨g, o, rfl, ?_, fun j p hj => ?_⟩⟩
        · show g < (Go.Sort.grow _ os).heap.size
          rw [Go.Sort.size_grow]; omega
        · have hjl : j < (sortP L).toArray.size := by
            rcases Nat.lt_or_ge j (sortP L).length with h | h
            · simpa using h
            · rw [List.getElem?_eq_none h] at hj; cases hj
          have hd : (sortP L).toArray[j]! = p := by
            rw [getElem!_def]
            simp [hj]
          have c0 := (HoldsK.cell hh2 hjl (show 0 < 2 by omega)).1
          have c1 := (HoldsK.cell hh2 hjl (show 1 < 2 by omega)).1
          rw [hd] at c0 c1
          exact ⟨c0, c1⟩
    have HC := Lib.hid hcon
    clear hcon hH eg ht hh hsz0 hlx
    obtain ⟨n, hn⟩ : ∃ n, L.length = n := ⟨_, rfl⟩
    rw [hn] at HC HF ⊢
    clear hn hle hl hsz
    go_enter Tryd.func42, Tryd.ntmps42
    go_wp2_with (go_at_call 51; refine HC.out.mono ?_; rintro e w' ⟨rfl, m, os, rfl⟩)
    have HP := Lib.hid (HF.out m os)
    clear HC HF
    go_ret
    exact ⟨rfl, HP⟩
end Go.Proofs.YtaabmkebbnkonaaDoor
