/-
  The document's proofs: steps that are right, each behind the ones ahead of it.
-/
import Derived.Test.YtahnedkdodjomaaProofRefRight
set_option linter.unusedVariables false
set_option linter.unusedSimpArgs false
set_option linter.unnecessarySimpa false
namespace Go.Proofs.Ytahnedkdodjomaa
open Go.ChangeShapes Go.WideShapes Go.ChangeAt Go.RowKit Go.Deep SetPlain
theorem inL_of {l : List Sp} {a : Int} {c : Nat} (h0 : 0 ≤ a) (h : inL l a.toNat c = true) : (atF l a c).isSome = true := by
  unfold inL at h
  rw [show ((a.toNat : Nat) : Int) = a from by omega] at h
  exact h
theorem right9_spec {W : World} {P K : Nat} {ao so : Option Addr} {n cap hn hcp : Nat} {rs : List Rl} {l : List Sp} (hR : RuleRow W ao rs) (hrs : rs.length = n) (hcap : n ≤ cap) (hS : StRow W so l) (hh : l.length = hn) (hhc : hn ≤ hcp) (hlen : hn ≤ 1000000) (hP : P ≤ 64) (hK : K ≤ 64)
    (s : Sp) (hm : mayB P K rs l s = true) :
    Calls Try.prog 16 #[.int .i64 P, .int .i64 K, .slice ao n cap, .slice so hn hcp, .agg #[.int .i64 s.rule, .int .i64 s.role, .int .i64 s.who, .int .i64 s.mid]] W (fun e W' => e = .returned (.bool true) ∧ Below W.heap.size W W') := by
  obtain ⟨i, r, c, m, hr, hB, rfl, hc, h3, h4⟩ := may_form hm
  rw [may_at hP hK hr hB hc h3 h4, Bool.and_eq_true] at hm
  obtain ⟨hp, _⟩ := hm
  obtain ⟨_, hcase⟩ := right_iff hB
  unfold premM at hp
  obtain ⟨kind, head, rwho, a, b, via⟩ := r
  simp only [] at hp hcase h3 h4 ⊢
  rcases hcase with ⟨rfl, _⟩ | ⟨rfl, a0, _⟩ | ⟨rfl, a0, _, v0, v1⟩ | ⟨rfl, a0, _, b0, _⟩
  · obtain rfl := h3 (by decide)
    rw [if_pos rfl] at hp
    obtain rfl := of_decide_eq_true hp
    exact right9_k1 hR hrs hcap hS hh hhc hlen hP hK i c 0 head a b via hr hB hc
  · obtain rfl := h3 (by decide)
    rw [if_neg (by decide), if_pos rfl] at hp
    exact right9_k2 hR hrs hcap hS hh hhc hlen hP hK i c 0 head rwho a b via hr hB hc (inL_of a0 hp)
  · rw [if_neg (by decide), if_neg (by decide), if_neg (by decide), Bool.and_eq_true] at hp
    refine right9_k3 hR hrs hcap hS hh hhc hlen hP hK i c m head rwho a b via hr hB hc (h4 rfl) (inL_of a0 hp.1) _ _ rfl rfl ?_
    have e := link_role (r := ⟨3, head, rwho, a, b, via⟩) hP hK (h4 rfl) v0 v1
    simp only [] at e
    rw [e]
    exact hp.2
  · obtain rfl := h3 (by decide)
    rw [if_neg (by decide), if_neg (by decide), if_pos rfl, Bool.and_eq_true] at hp
    exact right9_k4 hR hrs hcap hS hh hhc hlen hP hK i c 0 head rwho a b via hr hB hc (inL_of a0 hp.1) (inL_of b0 hp.2)
set_option maxRecDepth 100000
set_option maxHeartbeats 3200000
theorem check9_spec {W : World} {P K : Nat} {ao so : Option Addr} {n cap hn hcp : Nat} {rs : List Rl} {l : List Sp} (hR : RuleRow W ao rs) (hrs : rs.length = n) (hcap : n ≤ cap) (hS : StRow W so l) (hh : l.length = hn) (hhc : hn ≤ hcp) (hlen : hn ≤ 1000000) (hP : P ≤ 64) (hK : K ≤ 64)
    (hG : ∀ (i : Nat) (s : Sp), l[i]? = some s → mayB P K rs (l.take i) s = true) :
    Calls Try.prog 7 #[.int .i64 P, .int .i64 K, .slice ao n cap, .slice so hn hcp] W (fun e W' => e = .returned (.bool true) ∧ Below W.heap.size W W') := by
  have HR := Lib.hid hR
  have HS := Lib.hid hS
  have HG := Lib.hid hG
  clear hR hS hG
  go_enter Try.func7, Try.ntmps7
  go_wp2_with fail
  go_loopg [13] hn (fun g t wy => ∃ (j : Nat), j ≤ hn ∧ g = hn - j ∧ t = .int .i64 j ∧ Hid (Below W.heap.size W wy))
  case atStart => exact ⟨0, Nat.zero_le _, rfl, rfl, Below.refl _ _⟩
  case round =>
    obtain ⟨j, hj, rfl, rfl, HB⟩ := hrel
    by_cases hlt : j < hn
    · have hjI : (j : Int) < (hn : Int) := by omega
      have hjC : (j : Int) ≤ (hcp : Int) := by omega
      obtain ⟨s, hs⟩ : ∃ s, l[j]? = some s := ⟨_, List.getElem?_eq_getElem (by omega)⟩
      have hkW := Keeps.of_below (S := fun _ => False) HB.out (Nat.le_refl _)
      obtain ⟨bb, off, rfl, hbb, hc⟩ := (HS.out.keeps hkW) (by omega)
      obtain ⟨c0, c1, c2, c3⟩ := hc j s hs
      have hm := HG.out j s hs
      have hjl : (l.take j).length = j := by rw [List.length_take]; omega
      have hno : (atF (l.take j) s.role s.who).isSome = false := by
        unfold mayB at hm
        rw [Bool.and_eq_true] at hm
        have := hm.2
        cases h : (atF (l.take j) s.role s.who).isSome with
        | false => rfl
        | true => rw [h] at this; cases this
      have HHAS : Hid (∀ wD, Keeps (fun _ => False) wr wD → Calls Try.prog 15 #[.slice (some ⟨bb, off, none⟩) j hcp, .int .i64 s.role, .int .i64 s.who] wD fun e W' => e = .returned (.bool false) ∧ Keeps (fun _ => False) wr W' ∧ Keeps (fun _ => False) wD W') := fun wD hk => by
        refine (has9_spec ((HS.out.keeps (hkW.trans hk)).take j) hjl (by omega) (by omega) s.role s.who).mono ?_
        rintro e W' ⟨rfl, hb⟩
        exact ⟨by rw [hno], hk.trans (Keeps.of_below hb (Nat.le_refl _)), Keeps.of_below hb (Nat.le_refl _)⟩
      have HRIGHT : Hid (∀ wD, Keeps (fun _ => False) wr wD → Calls Try.prog 16 #[.int .i64 P, .int .i64 K, .slice ao n cap, .slice (some ⟨bb, off, none⟩) j hcp, .agg #[.int .i64 s.rule, .int .i64 s.role, .int .i64 s.who, .int .i64 s.mid]] wD fun e W' => e = .returned (.bool true) ∧ Keeps (fun _ => False) wr W' ∧ Keeps (fun _ => False) wD W') := fun wD hk => by
        refine (right9_spec (HR.out.keeps ((hkW.trans hk).below (Nat.le_refl _) (fun _ _ x => x)) (fun _ _ _ h => h)) hrs hcap ((HS.out.keeps (hkW.trans hk)).take j) hjl (by omega) (by omega) hP hK s hm).mono ?_
        rintro e W' ⟨rfl, hb⟩
        exact ⟨rfl, hk.trans (Keeps.of_below hb (Nat.le_refl _)), Keeps.of_below hb (Nat.le_refl _)⟩
      have HEND : Hid (∀ w', Keeps (fun _ => False) wr w' → Below W.heap.size W w') := fun w' hk => HB.out.trans (hk.below HB.out.size (fun _ _ x => x))
      obtain ⟨rule, role, who, mid⟩ := s
      simp only [] at c0 c1 c2 c3 HHAS HRIGHT
      have HSX2 : Hid (∀ w1, (fun w' => w'.cell? ⟨wr.heap.size, 0, none⟩ = some (.int .i64 rule) ∧ w'.cell? ⟨wr.heap.size, 1, none⟩ = some (.int .i64 role) ∧ w'.cell? ⟨wr.heap.size, 2, none⟩ = some (.int .i64 who) ∧ w'.cell? ⟨wr.heap.size, 3, none⟩ = some (.int .i64 mid)) w1 → ∀ w', Keeps (fun _ => False) w1 w' → (fun w' => w'.cell? ⟨wr.heap.size, 0, none⟩ = some (.int .i64 rule) ∧ w'.cell? ⟨wr.heap.size, 1, none⟩ = some (.int .i64 role) ∧ w'.cell? ⟨wr.heap.size, 2, none⟩ = some (.int .i64 who) ∧ w'.cell? ⟨wr.heap.size, 3, none⟩ = some (.int .i64 mid)) w') := fun w1 h w' hk => by
        obtain ⟨a0, a1, a2, a3⟩ := h
        have hl := lt_of_cell a0
        exact ⟨(hk.cell (p := ⟨wr.heap.size, 0, none⟩) hl (fun x => x)).trans a0, (hk.cell (p := ⟨wr.heap.size, 1, none⟩) hl (fun x => x)).trans a1, (hk.cell (p := ⟨wr.heap.size, 2, none⟩) hl (fun x => x)).trans a2, (hk.cell (p := ⟨wr.heap.size, 3, none⟩) hl (fun x => x)).trans a3⟩
      have hal : (wr.alloc (.cells #[.int .i64 rule, .int .i64 role, .int .i64 who, .int .i64 mid] 30)).heap[wr.heap.size]? = some (.cells #[.int .i64 rule, .int .i64 role, .int .i64 who, .int .i64 mid] 30) := (MapKept.heap_alloc wr _).1
      have HSX : Hid (∀ w', Keeps (fun _ => False) (wr.alloc (.cells #[.int .i64 rule, .int .i64 role, .int .i64 who, .int .i64 mid] 30)) w' → (fun w' => w'.cell? ⟨wr.heap.size, 0, none⟩ = some (.int .i64 rule) ∧ w'.cell? ⟨wr.heap.size, 1, none⟩ = some (.int .i64 role) ∧ w'.cell? ⟨wr.heap.size, 2, none⟩ = some (.int .i64 who) ∧ w'.cell? ⟨wr.heap.size, 3, none⟩ = some (.int .i64 mid)) w' ∧ Keeps (fun _ => False) wr w') := fun w' hk => by
        have e := (hk.block _ (lt_of_heap hal) (fun x => x)).trans hal
        refine ⟨⟨?_, ?_, ?_, ?_⟩, ((Keeps.refl _ _).alloc _).trans hk⟩ <;> (rw [cell_of_heap e]; rfl)
      have H0 := (HSX.out _ ((Keeps.refl _ _).drew)).1
      clear hkW hc hm hjl hno hs hal HB
      go_upto_region 4 with fail
      clear c0 c1 c2 c3
      obtain ⟨wQ, hwQ⟩ : ∃ wQ, (wr.alloc (.cells #[.int .i64 rule, .int .i64 role, .int .i64 who, .int .i64 mid] 30)) = wQ := ⟨_, rfl⟩
      simp only [hwQ] at H0 HSX ⊢
      clear hwQ
      refine wp_region_noPanic ?_
      refine wp_region_held_drew (S := (fun w' => w'.cell? ⟨wr.heap.size, 0, none⟩ = some (.int .i64 rule) ∧ w'.cell? ⟨wr.heap.size, 1, none⟩ = some (.int .i64 role) ∧ w'.cell? ⟨wr.heap.size, 2, none⟩ = some (.int .i64 who) ∧ w'.cell? ⟨wr.heap.size, 3, none⟩ = some (.int .i64 mid))) (by kernel_rfl) H0 (fun hHeld => ?_)
      refine wpAnyH_take_at (i := 0) (v := ?v0) rfl (by kernel_rfl) (by kernel_rfl) (by kernel_rfl) (fun _ _ _ h => h) (Or.inl ⟨by rfl, ?y0⟩) hHeld ?r0
      case y0 => (intro w hSw; (try dsimp only at hSw); go_simp; first | done | with_reducible rfl)
      (try simp only [Act.put, List.setIfInBounds_toArray, List.set_cons_zero, List.set_cons_succ])
      refine wpAnyH_take_at (i := 1) (v := ?v1) rfl (by kernel_rfl) (by kernel_rfl) (by kernel_rfl) (fun _ _ _ h => h) (Or.inl ⟨by rfl, ?y1⟩) hHeld ?r1
      case y1 => (intro w hSw; (try dsimp only at hSw); go_simp; first | done | with_reducible rfl)
      (try simp only [Act.put, List.setIfInBounds_toArray, List.set_cons_zero, List.set_cons_succ])
      refine wpAnyH_take_at (i := 2) (v := ?v2) rfl (by kernel_rfl) (by kernel_rfl) (by kernel_rfl) (fun _ _ _ h => h) (Or.inl ⟨by rfl, ?y2⟩) hHeld ?r2
      case y2 => (intro w hSw; (try dsimp only at hSw); go_simp; first | done | with_reducible rfl)
      (try simp only [Act.put, List.setIfInBounds_toArray, List.set_cons_zero, List.set_cons_succ])
      refine wpAnyH_take_at (i := 3) (v := ?v3) rfl (by kernel_rfl) (by kernel_rfl) (by kernel_rfl) (fun _ _ _ h => h) (Or.inl ⟨by rfl, ?y3⟩) hHeld ?r3
      case y3 => (intro w hSw; (try dsimp only at hSw); go_simp; first | done | with_reducible rfl)
      (try simp only [Act.put, List.setIfInBounds_toArray, List.set_cons_zero, List.set_cons_succ])
      refine wpAnyH_take_at (i := 4) (v := ?v4) rfl (by kernel_rfl) (by kernel_rfl) (by kernel_rfl) (fun _ _ _ h => h) (Or.inl ⟨by rfl, ?y4⟩) hHeld ?r4
      case y4 => (intro w hSw; (try dsimp only at hSw); go_simp; first | done | with_reducible rfl)
      (try simp only [Act.put, List.setIfInBounds_toArray, List.set_cons_zero, List.set_cons_succ])
      refine wpAnyH_take_at (i := 5) (v := ?v5) rfl (by kernel_rfl) (by kernel_rfl) (by kernel_rfl) (fun _ _ _ h => h) (Or.inl ⟨by rfl, ?y5⟩) hHeld ?r5
      case y5 => (intro w hSw; (try dsimp only at hSw); go_simp; first | done | with_reducible rfl)
      (try simp only [Act.put, List.setIfInBounds_toArray, List.set_cons_zero, List.set_cons_succ])
      refine wpAnyH_take_at (i := 6) (v := ?v6) rfl (by kernel_rfl) (by kernel_rfl) (by kernel_rfl) (fun _ _ _ h => h) (Or.inl ⟨by rfl, ?y6⟩) hHeld ?r6
      case y6 => (intro w hSw; (try dsimp only at hSw); go_simp; first | done | with_reducible rfl)
      (try simp only [Act.put, List.setIfInBounds_toArray, List.set_cons_zero, List.set_cons_succ])
      refine wpAnyH_one (i := 7) (by kernel_rfl) rfl (fun KK hK => ?_)
      go_simp
      obtain ⟨hs1, hk1⟩ := HSX.out _ ((Keeps.refl (fun _ => False) wQ).drew)
      refine (HHAS.out _ hk1).mono ?_
      rintro e wD ⟨rfl, hkD⟩
      go_simp
      obtain ⟨hs2, hk2⟩ : (fun w' => w'.cell? ⟨wr.heap.size, 0, none⟩ = some (.int .i64 rule) ∧ w'.cell? ⟨wr.heap.size, 1, none⟩ = some (.int .i64 role) ∧ w'.cell? ⟨wr.heap.size, 2, none⟩ = some (.int .i64 who) ∧ w'.cell? ⟨wr.heap.size, 3, none⟩ = some (.int .i64 mid)) wD ∧ Keeps (fun _ => False) wr wD := ⟨HSX2.out _ hs1 _ hkD.2, hkD.1⟩
      refine hK.out _ _ ?s7 (fun hHeld => ?_)
      case s7 => exact hs2
      clear hK KK
      (try simp only [Act.put, List.setIfInBounds_toArray, List.set_cons_zero, List.set_cons_succ])
      refine wpAnyH_take_at (i := 8) (v := ?v8) rfl (by kernel_rfl) (by kernel_rfl) (by kernel_rfl) (fun _ _ _ h => h) (Or.inl ⟨by rfl, ?y8⟩) hHeld ?r8
      case y8 => (intro w hSw; (try dsimp only at hSw); go_simp; first | done | with_reducible rfl)
      (try simp only [Act.put, List.setIfInBounds_toArray, List.set_cons_zero, List.set_cons_succ])
      refine wpAnyH_take_at (i := 9) (v := ?v9) rfl (by kernel_rfl) (by kernel_rfl) (by kernel_rfl) (fun _ _ _ h => h) (Or.inl ⟨by rfl, ?y9⟩) hHeld ?r9
      case y9 => (intro w hSw; (try dsimp only at hSw); go_simp; first | done | with_reducible rfl)
      (try simp only [Act.put, List.setIfInBounds_toArray, List.set_cons_zero, List.set_cons_succ])
      refine wpAnyH_take_at (i := 10) (v := ?v10) rfl (by kernel_rfl) (by kernel_rfl) (by kernel_rfl) (fun _ _ _ h => h) (Or.inl ⟨by rfl, ?y10⟩) hHeld ?r10
      case y10 => (intro w hSw; (try dsimp only at hSw); go_simp; first | done | with_reducible rfl)
      (try simp only [Act.put, List.setIfInBounds_toArray, List.set_cons_zero, List.set_cons_succ])
      refine wpAnyH_take_at (i := 11) (v := ?v11) rfl (by kernel_rfl) (by kernel_rfl) (by kernel_rfl) (fun _ _ _ h => h) (Or.inl ⟨by rfl, ?y11⟩) hHeld ?r11
      case y11 => (intro w hSw; (try dsimp only at hSw); go_simp; first | done | with_reducible rfl)
      (try simp only [Act.put, List.setIfInBounds_toArray, List.set_cons_zero, List.set_cons_succ])
      refine wpAnyH_take_at (i := 12) (v := ?v12) rfl (by kernel_rfl) (by kernel_rfl) (by kernel_rfl) (fun _ _ _ h => h) (Or.inl ⟨by rfl, ?y12⟩) hHeld ?r12
      case y12 => (intro w hSw; (try dsimp only at hSw); go_simp; first | done | with_reducible rfl)
      (try simp only [Act.put, List.setIfInBounds_toArray, List.set_cons_zero, List.set_cons_succ])
      refine wpAnyH_take_at (i := 13) (v := ?v13) rfl (by kernel_rfl) (by kernel_rfl) (by kernel_rfl) (fun _ _ _ h => h) (Or.inl ⟨by rfl, ?y13⟩) hHeld ?r13
      case y13 => (intro w hSw; (try dsimp only at hSw); go_simp; first | done | with_reducible rfl)
      (try simp only [Act.put, List.setIfInBounds_toArray, List.set_cons_zero, List.set_cons_succ])
      refine wpAnyH_take_at (i := 14) (v := ?v14) rfl (by kernel_rfl) (by kernel_rfl) (by kernel_rfl) (fun _ _ _ h => h) (Or.inl ⟨by rfl, ?y14⟩) hHeld ?r14
      case y14 => (intro w hSw; (try dsimp only at hSw); go_simp; first | done | with_reducible rfl)
      (try simp only [Act.put, List.setIfInBounds_toArray, List.set_cons_zero, List.set_cons_succ])
      refine wpAnyH_take_at (i := 15) (v := ?v15) rfl (by kernel_rfl) (by kernel_rfl) (by kernel_rfl) (fun _ _ _ h => h) (Or.inl ⟨by rfl, ?y15⟩) hHeld ?r15
      case y15 => (intro w hSw; (try dsimp only at hSw); go_simp; first | done | with_reducible rfl)
      (try simp only [Act.put, List.setIfInBounds_toArray, List.set_cons_zero, List.set_cons_succ])
      refine wpAnyH_one (i := 16) (by kernel_rfl) rfl (fun KK hK => ?_)
      go_simp
      refine (HRIGHT.out _ hk2).mono ?_
      rintro e wE ⟨rfl, hkE⟩
      go_simp
      have hs3 : (fun w' => w'.cell? ⟨wr.heap.size, 0, none⟩ = some (.int .i64 rule) ∧ w'.cell? ⟨wr.heap.size, 1, none⟩ = some (.int .i64 role) ∧ w'.cell? ⟨wr.heap.size, 2, none⟩ = some (.int .i64 who) ∧ w'.cell? ⟨wr.heap.size, 3, none⟩ = some (.int .i64 mid)) wE := HSX2.out _ hs2 _ hkE.2
      refine hK.out _ _ ?s16 (fun hHeld => ?_)
      case s16 => exact hs3
      clear hK KK
      (try simp only [Act.put, List.setIfInBounds_toArray, List.set_cons_zero, List.set_cons_succ])
      refine wpAnyH_take_at (i := 17) (v := ?v17) rfl (by kernel_rfl) (by kernel_rfl) (by kernel_rfl) (fun _ _ _ h => h) (Or.inl ⟨by rfl, ?y17⟩) hHeld ?r17
      case y17 => (intro w hSw; (try dsimp only at hSw); go_simp; first | done | with_reducible rfl)
      (try simp only [Act.put, List.setIfInBounds_toArray, List.set_cons_zero, List.set_cons_succ])
      refine wpAnyH_take_at (i := 18) (v := ?v18) rfl (by kernel_rfl) (by kernel_rfl) (by kernel_rfl) (fun _ _ _ h => h) (Or.inl ⟨by rfl, ?y18⟩) hHeld ?r18
      case y18 => (intro w hSw; (try dsimp only at hSw); go_simp; first | done | with_reducible rfl)
      (try simp only [Act.put, List.setIfInBounds_toArray, List.set_cons_zero, List.set_cons_succ])
      refine wpAnyH_done (by kernel_rfl) ?_ _
      refine NoPanic.normal ?_
      have HF := Lib.hid (HEND.out _ hkE.1)
      clear hHeld HHAS HRIGHT HSX HSX2 HEND hs2 hs3 hk1 hk2 hkD hkE H0
      go_wp2_with fail
      go_roundg (hn - (j + 1))
      case measure => omega
      case rel => exact ⟨j + 1, by omega, rfl, by go_num, HF.out⟩
    · have hjE : j = hn := by omega
      have hjI : ¬ (j : Int) < (hn : Int) := by omega
      go_wp2_with fail
      go_ret
      exact ⟨rfl, HB.out⟩
end Go.Proofs.Ytahnedkdodjomaa
