/-
  The document's proofs: are any steps right, each behind the ones ahead of it?
-/
import Derived.Test.YtahnedkdodjomaaProofRightJoin
set_option linter.unusedVariables false
set_option linter.unusedSimpArgs false
set_option linter.unnecessarySimpa false
namespace Go.Proofs.Ytahnedkdodjomaa
open Go.ChangeShapes Go.WideShapes Go.ChangeAt Go.RowKit Go.Deep SetPlain
def Chk9Post (W : World) (Pr : Prop) (e : Ending) (W' : World) : Prop := ∃ b, e = .returned (.bool b) ∧ Hid (b = true ↔ Pr) ∧ Hid (Below W.heap.size W W')
set_option maxRecDepth 100000
set_option maxHeartbeats 3200000
theorem check9_any {W : World} {p k : Int} {ao so : Option Addr} {n cap hn hcp : Nat} {rs : List Rl} {l : List Sp} (hR : RuleRow W ao rs) (hrs : rs.length = n) (hcap : n ≤ cap) (hS : StRow W so l) (hh : l.length = hn) (hhc : hn ≤ hcp) (hlen : hn ≤ 1000000) (hP : p ≤ 64) (hK : k ≤ 64) :
    Calls Try.prog 7 #[.int .i64 p, .int .i64 k, .slice ao n cap, .slice so hn hcp] W (Chk9Post W (Chk p k rs l)) := by
  have HR := Lib.hid hR
  have HS := Lib.hid hS
  have HH := Lib.hid hh
  have HNO : Hid (∀ (j : Nat) (s : Sp), l[j]? = some s → mayB p k rs (l.take j) s = false → (false = true ↔ Chk p k rs l)) := fun j s hs hm => ⟨fun h => (by cases h), fun h => (by rw [h j s hs] at hm; cases hm)⟩
  clear hR hS
  go_enter Try.func7, Try.ntmps7
  go_wp2_with fail
  go_loopg [13] hn (fun g t wy => ∃ (j : Nat), j ≤ hn ∧ g = hn - j ∧ t = .int .i64 j ∧ Hid (Below W.heap.size W wy) ∧ Hid (∀ (i : Nat) (s : Sp), i < j → l[i]? = some s → mayB p k rs (l.take i) s = true))
  case atStart => exact ⟨0, Nat.zero_le _, rfl, rfl, Below.refl _ _, fun i s h => absurd h (Nat.not_lt_zero _)⟩
  case round =>
    obtain ⟨j, hj, rfl, rfl, HB, HI⟩ := hrel
    by_cases hlt : j < hn
    · have hjI : (j : Int) < (hn : Int) := by omega
      have hjC : (j : Int) ≤ (hcp : Int) := by omega
      obtain ⟨s, hs⟩ : ∃ s, l[j]? = some s := ⟨_, List.getElem?_eq_getElem (by omega)⟩
      have hkW := Keeps.of_below (S := fun _ => False) HB.out (Nat.le_refl _)
      obtain ⟨bb, off, rfl, hbb, hc⟩ := (HS.out.keeps hkW) (by omega)
      obtain ⟨c0, c1, c2, c3⟩ := hc j s hs
      have hjl : (l.take j).length = j := by rw [List.length_take]; omega
      have hm0 := mayB_rB p k rs (l.take j) s
      have HNOJ : Hid (mayB p k rs (l.take j) s = false → (false = true ↔ Chk p k rs l)) := fun h => HNO.out j s hs h
      have HYES : Hid (mayB p k rs (l.take j) s = true → ∀ (i : Nat) (s : Sp), i < j + 1 → l[i]? = some s → mayB p k rs (l.take i) s = true) := fun h i x hi hx => by
        rcases Nat.lt_or_eq_of_le (Nat.le_of_lt_succ hi) with h2 | h2
        · exact HI.out i x h2 hx
        · subst h2; rw [hs] at hx; cases hx; exact h
      obtain ⟨hv, hhv⟩ : ∃ v, (atF (l.take j) s.role s.who).isSome = v := ⟨_, rfl⟩
      obtain ⟨rv, hrv⟩ : ∃ v, rB p k rs (l.take j) s = v := ⟨_, rfl⟩
      rw [hhv, hrv] at hm0
      have HHAS : Hid (∀ wD, Keeps (fun _ => False) wr wD → Calls Try.prog 15 #[.slice (some ⟨bb, off, none⟩) j hcp, .int .i64 s.role, .int .i64 s.who] wD fun e W' => e = .returned (.bool hv) ∧ Keeps (fun _ => False) wr W' ∧ Keeps (fun _ => False) wD W') := fun wD hk => by
        refine (has9_spec ((HS.out.keeps (hkW.trans hk)).take j) hjl (by omega) (by omega) s.role s.who).mono ?_
        rintro e W' ⟨rfl, hb⟩
        exact ⟨by rw [hhv], hk.trans (Keeps.of_below hb (Nat.le_refl _)), Keeps.of_below hb (Nat.le_refl _)⟩
      have HRIGHT : Hid (∀ wD, Keeps (fun _ => False) wr wD → Calls Try.prog 16 #[.int .i64 p, .int .i64 k, .slice ao n cap, .slice (some ⟨bb, off, none⟩) j hcp, .agg #[.int .i64 s.rule, .int .i64 s.role, .int .i64 s.who, .int .i64 s.mid]] wD fun e W' => e = .returned (.bool rv) ∧ Keeps (fun _ => False) wr W' ∧ Keeps (fun _ => False) wD W') := fun wD hk => by
        refine (right9_any (HR.out.keeps ((hkW.trans hk).below (Nat.le_refl _) (fun _ _ x => x)) (fun _ _ _ h => h)) hrs hcap ((HS.out.keeps (hkW.trans hk)).take j) hjl (by omega) (by omega) hP hK s).mono ?_
        rintro e W' ⟨rfl, hb⟩
        exact ⟨by rw [hrv], hk.trans (Keeps.of_below hb (Nat.le_refl _)), Keeps.of_below hb (Nat.le_refl _)⟩
      have HEND : Hid (∀ w', Keeps (fun _ => False) wr w' → Below W.heap.size W w') := fun w' hk => HB.out.trans (hk.below HB.out.size (fun _ _ x => x))
      obtain ⟨rule, role, who, mid⟩ := s
      simp only [] at c0 c1 c2 c3 HHAS HRIGHT
      have HM0 := Lib.hid hm0
      have HSX2 : Hid (∀ w1, (fun w' => w'.cell? ⟨wr.heap.size, 0, none⟩ = some (.int .i64 rule) ∧ w'.cell? ⟨wr.heap.size, 1, none⟩ = some (.int .i64 role) ∧ w'.cell? ⟨wr.heap.size, 2, none⟩ = some (.int .i64 who) ∧ w'.cell? ⟨wr.heap.size, 3, none⟩ = some (.int .i64 mid)) w1 → ∀ w', Keeps (fun _ => False) w1 w' → (fun w' => w'.cell? ⟨wr.heap.size, 0, none⟩ = some (.int .i64 rule) ∧ w'.cell? ⟨wr.heap.size, 1, none⟩ = some (.int .i64 role) ∧ w'.cell? ⟨wr.heap.size, 2, none⟩ = some (.int .i64 who) ∧ w'.cell? ⟨wr.heap.size, 3, none⟩ = some (.int .i64 mid)) w') := fun w1 h w' hk => by
        obtain ⟨a0, a1, a2, a3⟩ := h
        have hl := lt_of_cell a0
        exact ⟨(hk.cell (p := ⟨wr.heap.size, 0, none⟩) hl (fun x => x)).trans a0, (hk.cell (p := ⟨wr.heap.size, 1, none⟩) hl (fun x => x)).trans a1, (hk.cell (p := ⟨wr.heap.size, 2, none⟩) hl (fun x => x)).trans a2, (hk.cell (p := ⟨wr.heap.size, 3, none⟩) hl (fun x => x)).trans a3⟩
      have hal : (wr.alloc (.cells #[.int .i64 rule, .int .i64 role, .int .i64 who, .int .i64 mid] 30)).heap[wr.heap.size]? = some (.cells #[.int .i64 rule, .int .i64 role, .int .i64 who, .int .i64 mid] 30) := (MapKept.heap_alloc wr _).1
      have HSX : Hid (∀ w', Keeps (fun _ => False) (wr.alloc (.cells #[.int .i64 rule, .int .i64 role, .int .i64 who, .int .i64 mid] 30)) w' → (fun w' => w'.cell? ⟨wr.heap.size, 0, none⟩ = some (.int .i64 rule) ∧ w'.cell? ⟨wr.heap.size, 1, none⟩ = some (.int .i64 role) ∧ w'.cell? ⟨wr.heap.size, 2, none⟩ = some (.int .i64 who) ∧ w'.cell? ⟨wr.heap.size, 3, none⟩ = some (.int .i64 mid)) w' ∧ Keeps (fun _ => False) wr w') := fun w' hk => by
        have e := (hk.block _ (lt_of_heap hal) (fun x => x)).trans hal
        refine ⟨⟨?_, ?_, ?_, ?_⟩, ((Keeps.refl _ _).alloc _).trans hk⟩ <;> (rw [cell_of_heap e]; rfl)
      have H0 := (HSX.out _ ((Keeps.refl _ _).drew)).1
      clear hkW hc hm0 hjl hhv hrv hs hal HB HI HH hh HNO
      cases hv with
      | true =>
        rw [show (rv && !true) = false from by cases rv <;> rfl] at HM0
        go_upto_region 4 with fail
        clear c0 c1 c2 c3
        obtain ⟨wQ, hwQ⟩ : ∃ wQ, (wr.alloc (.cells #[.int .i64 rule, .int .i64 role, .int .i64 who, .int .i64 mid] 30)) = wQ := ⟨_, rfl⟩
        simp only [hwQ] at H0 HSX ⊢
        clear hwQ
        refine wp_region_noPanic ?_
        refine wp_region_held_drew (S := (fun w' => w'.cell? ⟨wr.heap.size, 0, none⟩ = some (.int .i64 rule) ∧ w'.cell? ⟨wr.heap.size, 1, none⟩ = some (.int .i64 role) ∧ w'.cell? ⟨wr.heap.size, 2, none⟩ = some (.int .i64 who) ∧ w'.cell? ⟨wr.heap.size, 3, none⟩ = some (.int .i64 mid))) (by kernel_rfl) H0 (fun hHeld => ?_)
        refine wpAnyH_take_at (i := 0) (v := ?v0c) rfl (by kernel_rfl) (by kernel_rfl) (by kernel_rfl) (fun _ _ _ h => h) (Or.inl ⟨by rfl, ?y0c⟩) hHeld ?r0c
        case y0c => (intro w hSw; (try dsimp only at hSw); go_simp; first | done | with_reducible rfl)
        (try simp only [Act.put, List.setIfInBounds_toArray, List.set_cons_zero, List.set_cons_succ])
        refine wpAnyH_take_at (i := 1) (v := ?v1c) rfl (by kernel_rfl) (by kernel_rfl) (by kernel_rfl) (fun _ _ _ h => h) (Or.inl ⟨by rfl, ?y1c⟩) hHeld ?r1c
        case y1c => (intro w hSw; (try dsimp only at hSw); go_simp; first | done | with_reducible rfl)
        (try simp only [Act.put, List.setIfInBounds_toArray, List.set_cons_zero, List.set_cons_succ])
        refine wpAnyH_take_at (i := 2) (v := ?v2c) rfl (by kernel_rfl) (by kernel_rfl) (by kernel_rfl) (fun _ _ _ h => h) (Or.inl ⟨by rfl, ?y2c⟩) hHeld ?r2c
        case y2c => (intro w hSw; (try dsimp only at hSw); go_simp; first | done | with_reducible rfl)
        (try simp only [Act.put, List.setIfInBounds_toArray, List.set_cons_zero, List.set_cons_succ])
        refine wpAnyH_take_at (i := 3) (v := ?v3c) rfl (by kernel_rfl) (by kernel_rfl) (by kernel_rfl) (fun _ _ _ h => h) (Or.inl ⟨by rfl, ?y3c⟩) hHeld ?r3c
        case y3c => (intro w hSw; (try dsimp only at hSw); go_simp; first | done | with_reducible rfl)
        (try simp only [Act.put, List.setIfInBounds_toArray, List.set_cons_zero, List.set_cons_succ])
        refine wpAnyH_take_at (i := 4) (v := ?v4c) rfl (by kernel_rfl) (by kernel_rfl) (by kernel_rfl) (fun _ _ _ h => h) (Or.inl ⟨by rfl, ?y4c⟩) hHeld ?r4c
        case y4c => (intro w hSw; (try dsimp only at hSw); go_simp; first | done | with_reducible rfl)
        (try simp only [Act.put, List.setIfInBounds_toArray, List.set_cons_zero, List.set_cons_succ])
        refine wpAnyH_take_at (i := 5) (v := ?v5c) rfl (by kernel_rfl) (by kernel_rfl) (by kernel_rfl) (fun _ _ _ h => h) (Or.inl ⟨by rfl, ?y5c⟩) hHeld ?r5c
        case y5c => (intro w hSw; (try dsimp only at hSw); go_simp; first | done | with_reducible rfl)
        (try simp only [Act.put, List.setIfInBounds_toArray, List.set_cons_zero, List.set_cons_succ])
        refine wpAnyH_take_at (i := 6) (v := ?v6c) rfl (by kernel_rfl) (by kernel_rfl) (by kernel_rfl) (fun _ _ _ h => h) (Or.inl ⟨by rfl, ?y6c⟩) hHeld ?r6c
        case y6c => (intro w hSw; (try dsimp only at hSw); go_simp; first | done | with_reducible rfl)
        (try simp only [Act.put, List.setIfInBounds_toArray, List.set_cons_zero, List.set_cons_succ])
        refine wpAnyH_one (i := 7) (by kernel_rfl) rfl (fun KK hK => ?_)
        go_simp
        obtain ⟨hs1, hk1⟩ := HSX.out _ ((Keeps.refl (fun _ => False) wQ).drew)
        refine (HHAS.out _ hk1).mono ?_
        rintro e wD ⟨rfl, hkD⟩
        go_simp
        obtain ⟨hs2, hk2⟩ : (fun w' => w'.cell? ⟨wr.heap.size, 0, none⟩ = some (.int .i64 rule) ∧ w'.cell? ⟨wr.heap.size, 1, none⟩ = some (.int .i64 role) ∧ w'.cell? ⟨wr.heap.size, 2, none⟩ = some (.int .i64 who) ∧ w'.cell? ⟨wr.heap.size, 3, none⟩ = some (.int .i64 mid)) wD ∧ Keeps (fun _ => False) wr wD := ⟨HSX2.out _ hs1 _ hkD.2, hkD.1⟩
        refine hK.out _ _ ?s7c (fun hHeld => ?_)
        case s7c => exact hs2
        clear hK KK
        (try simp only [Act.put, List.setIfInBounds_toArray, List.set_cons_zero, List.set_cons_succ])
        refine wpAnyH_take_at (i := 8) (v := ?v8c) rfl (by kernel_rfl) (by kernel_rfl) (by kernel_rfl) (fun _ _ _ h => h) (Or.inl ⟨by rfl, ?y8c⟩) hHeld ?r8c
        case y8c => (intro w hSw; (try dsimp only at hSw); go_simp; first | done | with_reducible rfl)
        (try simp only [Act.put, List.setIfInBounds_toArray, List.set_cons_zero, List.set_cons_succ])
        refine wpAnyH_take_at (i := 9) (v := undef) rfl (by kernel_rfl) (by kernel_rfl) (by kernel_rfl) (fun _ _ _ h => h) (Or.inr ⟨by rfl, rfl⟩) hHeld ?r9c
        (try simp only [Act.put, List.setIfInBounds_toArray, List.set_cons_zero, List.set_cons_succ])
        refine wpAnyH_take_at (i := 10) (v := undef) rfl (by kernel_rfl) (by kernel_rfl) (by kernel_rfl) (fun _ _ _ h => h) (Or.inr ⟨by rfl, rfl⟩) hHeld ?r10c
        (try simp only [Act.put, List.setIfInBounds_toArray, List.set_cons_zero, List.set_cons_succ])
        refine wpAnyH_take_at (i := 11) (v := undef) rfl (by kernel_rfl) (by kernel_rfl) (by kernel_rfl) (fun _ _ _ h => h) (Or.inr ⟨by rfl, rfl⟩) hHeld ?r11c
        (try simp only [Act.put, List.setIfInBounds_toArray, List.set_cons_zero, List.set_cons_succ])
        refine wpAnyH_take_at (i := 12) (v := undef) rfl (by kernel_rfl) (by kernel_rfl) (by kernel_rfl) (fun _ _ _ h => h) (Or.inr ⟨by rfl, rfl⟩) hHeld ?r12c
        (try simp only [Act.put, List.setIfInBounds_toArray, List.set_cons_zero, List.set_cons_succ])
        refine wpAnyH_take_at (i := 13) (v := undef) rfl (by kernel_rfl) (by kernel_rfl) (by kernel_rfl) (fun _ _ _ h => h) (Or.inr ⟨by rfl, rfl⟩) hHeld ?r13c
        (try simp only [Act.put, List.setIfInBounds_toArray, List.set_cons_zero, List.set_cons_succ])
        refine wpAnyH_take_at (i := 14) (v := undef) rfl (by kernel_rfl) (by kernel_rfl) (by kernel_rfl) (fun _ _ _ h => h) (Or.inr ⟨by rfl, rfl⟩) hHeld ?r14c
        (try simp only [Act.put, List.setIfInBounds_toArray, List.set_cons_zero, List.set_cons_succ])
        refine wpAnyH_take_at (i := 15) (v := undef) rfl (by kernel_rfl) (by kernel_rfl) (by kernel_rfl) (fun _ _ _ h => h) (Or.inr ⟨by rfl, rfl⟩) hHeld ?r15c
        (try simp only [Act.put, List.setIfInBounds_toArray, List.set_cons_zero, List.set_cons_succ])
        refine wpAnyH_take_at (i := 16) (v := undef) rfl (by kernel_rfl) (by kernel_rfl) (by kernel_rfl) (fun _ _ _ h => h) (Or.inr ⟨by rfl, rfl⟩) hHeld ?r16c
        (try simp only [Act.put, List.setIfInBounds_toArray, List.set_cons_zero, List.set_cons_succ])
        refine wpAnyH_take_at (i := 17) (v := undef) rfl (by kernel_rfl) (by kernel_rfl) (by kernel_rfl) (fun _ _ _ h => h) (Or.inr ⟨by rfl, rfl⟩) hHeld ?r17c
        (try simp only [Act.put, List.setIfInBounds_toArray, List.set_cons_zero, List.set_cons_succ])
        refine wpAnyH_take_at (i := 18) (v := ?v18c) rfl (by kernel_rfl) (by kernel_rfl) (by kernel_rfl) (fun _ _ _ h => h) (Or.inl ⟨by rfl, ?y18c⟩) hHeld ?r18c
        case y18c => (intro w hSw; (try dsimp only at hSw); go_simp; first | done | with_reducible rfl)
        (try simp only [Act.put, List.setIfInBounds_toArray, List.set_cons_zero, List.set_cons_succ])
        refine wpAnyH_done (by kernel_rfl) ?_ _
        refine NoPanic.normal ?_
        have HF := Lib.hid (HEND.out _ hkD.1)
        clear hHeld HHAS HRIGHT HSX HSX2 HEND hs2 hk1 hk2 hkD H0
        have HN2 := Lib.hid (HNOJ.out HM0.out)
        go_wp2_with fail
        go_ret
        exact ⟨false, rfl, HN2.out, HF.out⟩
      | false =>
        cases rv with
        | true =>
          go_upto_region 4 with fail
          clear c0 c1 c2 c3
          obtain ⟨wQ, hwQ⟩ : ∃ wQ, (wr.alloc (.cells #[.int .i64 rule, .int .i64 role, .int .i64 who, .int .i64 mid] 30)) = wQ := ⟨_, rfl⟩
          simp only [hwQ] at H0 HSX ⊢
          clear hwQ
          refine wp_region_noPanic ?_
          refine wp_region_held_drew (S := (fun w' => w'.cell? ⟨wr.heap.size, 0, none⟩ = some (.int .i64 rule) ∧ w'.cell? ⟨wr.heap.size, 1, none⟩ = some (.int .i64 role) ∧ w'.cell? ⟨wr.heap.size, 2, none⟩ = some (.int .i64 who) ∧ w'.cell? ⟨wr.heap.size, 3, none⟩ = some (.int .i64 mid))) (by kernel_rfl) H0 (fun hHeld => ?_)
          refine wpAnyH_take_at (i := 0) (v := ?v0b) rfl (by kernel_rfl) (by kernel_rfl) (by kernel_rfl) (fun _ _ _ h => h) (Or.inl ⟨by rfl, ?y0b⟩) hHeld ?r0b
          case y0b => (intro w hSw; (try dsimp only at hSw); go_simp; first | done | with_reducible rfl)
          (try simp only [Act.put, List.setIfInBounds_toArray, List.set_cons_zero, List.set_cons_succ])
          refine wpAnyH_take_at (i := 1) (v := ?v1b) rfl (by kernel_rfl) (by kernel_rfl) (by kernel_rfl) (fun _ _ _ h => h) (Or.inl ⟨by rfl, ?y1b⟩) hHeld ?r1b
          case y1b => (intro w hSw; (try dsimp only at hSw); go_simp; first | done | with_reducible rfl)
          (try simp only [Act.put, List.setIfInBounds_toArray, List.set_cons_zero, List.set_cons_succ])
          refine wpAnyH_take_at (i := 2) (v := ?v2b) rfl (by kernel_rfl) (by kernel_rfl) (by kernel_rfl) (fun _ _ _ h => h) (Or.inl ⟨by rfl, ?y2b⟩) hHeld ?r2b
          case y2b => (intro w hSw; (try dsimp only at hSw); go_simp; first | done | with_reducible rfl)
          (try simp only [Act.put, List.setIfInBounds_toArray, List.set_cons_zero, List.set_cons_succ])
          refine wpAnyH_take_at (i := 3) (v := ?v3b) rfl (by kernel_rfl) (by kernel_rfl) (by kernel_rfl) (fun _ _ _ h => h) (Or.inl ⟨by rfl, ?y3b⟩) hHeld ?r3b
          case y3b => (intro w hSw; (try dsimp only at hSw); go_simp; first | done | with_reducible rfl)
          (try simp only [Act.put, List.setIfInBounds_toArray, List.set_cons_zero, List.set_cons_succ])
          refine wpAnyH_take_at (i := 4) (v := ?v4b) rfl (by kernel_rfl) (by kernel_rfl) (by kernel_rfl) (fun _ _ _ h => h) (Or.inl ⟨by rfl, ?y4b⟩) hHeld ?r4b
          case y4b => (intro w hSw; (try dsimp only at hSw); go_simp; first | done | with_reducible rfl)
          (try simp only [Act.put, List.setIfInBounds_toArray, List.set_cons_zero, List.set_cons_succ])
          refine wpAnyH_take_at (i := 5) (v := ?v5b) rfl (by kernel_rfl) (by kernel_rfl) (by kernel_rfl) (fun _ _ _ h => h) (Or.inl ⟨by rfl, ?y5b⟩) hHeld ?r5b
          case y5b => (intro w hSw; (try dsimp only at hSw); go_simp; first | done | with_reducible rfl)
          (try simp only [Act.put, List.setIfInBounds_toArray, List.set_cons_zero, List.set_cons_succ])
          refine wpAnyH_take_at (i := 6) (v := ?v6b) rfl (by kernel_rfl) (by kernel_rfl) (by kernel_rfl) (fun _ _ _ h => h) (Or.inl ⟨by rfl, ?y6b⟩) hHeld ?r6b
          case y6b => (intro w hSw; (try dsimp only at hSw); go_simp; first | done | with_reducible rfl)
          (try simp only [Act.put, List.setIfInBounds_toArray, List.set_cons_zero, List.set_cons_succ])
          refine wpAnyH_one (i := 7) (by kernel_rfl) rfl (fun KK hK => ?_)
          go_simp
          obtain ⟨hs1, hk1⟩ := HSX.out _ ((Keeps.refl (fun _ => False) wQ).drew)
          refine (HHAS.out _ hk1).mono ?_
          rintro e wD ⟨rfl, hkD⟩
          go_simp
          obtain ⟨hs2, hk2⟩ : (fun w' => w'.cell? ⟨wr.heap.size, 0, none⟩ = some (.int .i64 rule) ∧ w'.cell? ⟨wr.heap.size, 1, none⟩ = some (.int .i64 role) ∧ w'.cell? ⟨wr.heap.size, 2, none⟩ = some (.int .i64 who) ∧ w'.cell? ⟨wr.heap.size, 3, none⟩ = some (.int .i64 mid)) wD ∧ Keeps (fun _ => False) wr wD := ⟨HSX2.out _ hs1 _ hkD.2, hkD.1⟩
          refine hK.out _ _ ?s7b (fun hHeld => ?_)
          case s7b => exact hs2
          clear hK KK
          (try simp only [Act.put, List.setIfInBounds_toArray, List.set_cons_zero, List.set_cons_succ])
          refine wpAnyH_take_at (i := 8) (v := ?v8b) rfl (by kernel_rfl) (by kernel_rfl) (by kernel_rfl) (fun _ _ _ h => h) (Or.inl ⟨by rfl, ?y8b⟩) hHeld ?r8b
          case y8b => (intro w hSw; (try dsimp only at hSw); go_simp; first | done | with_reducible rfl)
          (try simp only [Act.put, List.setIfInBounds_toArray, List.set_cons_zero, List.set_cons_succ])
          refine wpAnyH_take_at (i := 9) (v := ?v9b) rfl (by kernel_rfl) (by kernel_rfl) (by kernel_rfl) (fun _ _ _ h => h) (Or.inl ⟨by rfl, ?y9b⟩) hHeld ?r9b
          case y9b => (intro w hSw; (try dsimp only at hSw); go_simp; first | done | with_reducible rfl)
          (try simp only [Act.put, List.setIfInBounds_toArray, List.set_cons_zero, List.set_cons_succ])
          refine wpAnyH_take_at (i := 10) (v := ?v10b) rfl (by kernel_rfl) (by kernel_rfl) (by kernel_rfl) (fun _ _ _ h => h) (Or.inl ⟨by rfl, ?y10b⟩) hHeld ?r10b
          case y10b => (intro w hSw; (try dsimp only at hSw); go_simp; first | done | with_reducible rfl)
          (try simp only [Act.put, List.setIfInBounds_toArray, List.set_cons_zero, List.set_cons_succ])
          refine wpAnyH_take_at (i := 11) (v := ?v11b) rfl (by kernel_rfl) (by kernel_rfl) (by kernel_rfl) (fun _ _ _ h => h) (Or.inl ⟨by rfl, ?y11b⟩) hHeld ?r11b
          case y11b => (intro w hSw; (try dsimp only at hSw); go_simp; first | done | with_reducible rfl)
          (try simp only [Act.put, List.setIfInBounds_toArray, List.set_cons_zero, List.set_cons_succ])
          refine wpAnyH_take_at (i := 12) (v := ?v12b) rfl (by kernel_rfl) (by kernel_rfl) (by kernel_rfl) (fun _ _ _ h => h) (Or.inl ⟨by rfl, ?y12b⟩) hHeld ?r12b
          case y12b => (intro w hSw; (try dsimp only at hSw); go_simp; first | done | with_reducible rfl)
          (try simp only [Act.put, List.setIfInBounds_toArray, List.set_cons_zero, List.set_cons_succ])
          refine wpAnyH_take_at (i := 13) (v := ?v13b) rfl (by kernel_rfl) (by kernel_rfl) (by kernel_rfl) (fun _ _ _ h => h) (Or.inl ⟨by rfl, ?y13b⟩) hHeld ?r13b
          case y13b => (intro w hSw; (try dsimp only at hSw); go_simp; first | done | with_reducible rfl)
          (try simp only [Act.put, List.setIfInBounds_toArray, List.set_cons_zero, List.set_cons_succ])
          refine wpAnyH_take_at (i := 14) (v := ?v14b) rfl (by kernel_rfl) (by kernel_rfl) (by kernel_rfl) (fun _ _ _ h => h) (Or.inl ⟨by rfl, ?y14b⟩) hHeld ?r14b
          case y14b => (intro w hSw; (try dsimp only at hSw); go_simp; first | done | with_reducible rfl)
          (try simp only [Act.put, List.setIfInBounds_toArray, List.set_cons_zero, List.set_cons_succ])
          refine wpAnyH_take_at (i := 15) (v := ?v15b) rfl (by kernel_rfl) (by kernel_rfl) (by kernel_rfl) (fun _ _ _ h => h) (Or.inl ⟨by rfl, ?y15b⟩) hHeld ?r15b
          case y15b => (intro w hSw; (try dsimp only at hSw); go_simp; first | done | with_reducible rfl)
          (try simp only [Act.put, List.setIfInBounds_toArray, List.set_cons_zero, List.set_cons_succ])
          refine wpAnyH_one (i := 16) (by kernel_rfl) rfl (fun KK hK => ?_)
          go_simp
          refine (HRIGHT.out _ hk2).mono ?_
          rintro e wE ⟨rfl, hkE⟩
          go_simp
          have hs3 : (fun w' => w'.cell? ⟨wr.heap.size, 0, none⟩ = some (.int .i64 rule) ∧ w'.cell? ⟨wr.heap.size, 1, none⟩ = some (.int .i64 role) ∧ w'.cell? ⟨wr.heap.size, 2, none⟩ = some (.int .i64 who) ∧ w'.cell? ⟨wr.heap.size, 3, none⟩ = some (.int .i64 mid)) wE := HSX2.out _ hs2 _ hkE.2
          refine hK.out _ _ ?s16b (fun hHeld => ?_)
          case s16b => exact hs3
          clear hK KK
          (try simp only [Act.put, List.setIfInBounds_toArray, List.set_cons_zero, List.set_cons_succ])
          refine wpAnyH_take_at (i := 17) (v := ?v17b) rfl (by kernel_rfl) (by kernel_rfl) (by kernel_rfl) (fun _ _ _ h => h) (Or.inl ⟨by rfl, ?y17b⟩) hHeld ?r17b
          case y17b => (intro w hSw; (try dsimp only at hSw); go_simp; first | done | with_reducible rfl)
          (try simp only [Act.put, List.setIfInBounds_toArray, List.set_cons_zero, List.set_cons_succ])
          refine wpAnyH_take_at (i := 18) (v := ?v18b) rfl (by kernel_rfl) (by kernel_rfl) (by kernel_rfl) (fun _ _ _ h => h) (Or.inl ⟨by rfl, ?y18b⟩) hHeld ?r18b
          case y18b => (intro w hSw; (try dsimp only at hSw); go_simp; first | done | with_reducible rfl)
          (try simp only [Act.put, List.setIfInBounds_toArray, List.set_cons_zero, List.set_cons_succ])
          refine wpAnyH_done (by kernel_rfl) ?_ _
          refine NoPanic.normal ?_
          have HF := Lib.hid (HEND.out _ hkE.1)
          clear hHeld HHAS HRIGHT HSX HSX2 HEND hs2 hs3 hk1 hk2 hkD hkE H0
          have HY2 := Lib.hid (HYES.out HM0.out)
          go_wp2_with fail
          go_roundg (hn - (j + 1))
          case measure => omega
          case rel => exact ⟨j + 1, by omega, rfl, by go_num, HF.out, HY2.out⟩
        | false =>
          go_upto_region 4 with fail
          clear c0 c1 c2 c3
          obtain ⟨wQ, hwQ⟩ : ∃ wQ, (wr.alloc (.cells #[.int .i64 rule, .int .i64 role, .int .i64 who, .int .i64 mid] 30)) = wQ := ⟨_, rfl⟩
          simp only [hwQ] at H0 HSX ⊢
          clear hwQ
          refine wp_region_noPanic ?_
          refine wp_region_held_drew (S := (fun w' => w'.cell? ⟨wr.heap.size, 0, none⟩ = some (.int .i64 rule) ∧ w'.cell? ⟨wr.heap.size, 1, none⟩ = some (.int .i64 role) ∧ w'.cell? ⟨wr.heap.size, 2, none⟩ = some (.int .i64 who) ∧ w'.cell? ⟨wr.heap.size, 3, none⟩ = some (.int .i64 mid))) (by kernel_rfl) H0 (fun hHeld => ?_)
          refine wpAnyH_take_at (i := 0) (v := ?v0a) rfl (by kernel_rfl) (by kernel_rfl) (by kernel_rfl) (fun _ _ _ h => h) (Or.inl ⟨by rfl, ?y0a⟩) hHeld ?r0a
          case y0a => (intro w hSw; (try dsimp only at hSw); go_simp; first | done | with_reducible rfl)
          (try simp only [Act.put, List.setIfInBounds_toArray, List.set_cons_zero, List.set_cons_succ])
          refine wpAnyH_take_at (i := 1) (v := ?v1a) rfl (by kernel_rfl) (by kernel_rfl) (by kernel_rfl) (fun _ _ _ h => h) (Or.inl ⟨by rfl, ?y1a⟩) hHeld ?r1a
          case y1a => (intro w hSw; (try dsimp only at hSw); go_simp; first | done | with_reducible rfl)
          (try simp only [Act.put, List.setIfInBounds_toArray, List.set_cons_zero, List.set_cons_succ])
          refine wpAnyH_take_at (i := 2) (v := ?v2a) rfl (by kernel_rfl) (by kernel_rfl) (by kernel_rfl) (fun _ _ _ h => h) (Or.inl ⟨by rfl, ?y2a⟩) hHeld ?r2a
          case y2a => (intro w hSw; (try dsimp only at hSw); go_simp; first | done | with_reducible rfl)
          (try simp only [Act.put, List.setIfInBounds_toArray, List.set_cons_zero, List.set_cons_succ])
          refine wpAnyH_take_at (i := 3) (v := ?v3a) rfl (by kernel_rfl) (by kernel_rfl) (by kernel_rfl) (fun _ _ _ h => h) (Or.inl ⟨by rfl, ?y3a⟩) hHeld ?r3a
          case y3a => (intro w hSw; (try dsimp only at hSw); go_simp; first | done | with_reducible rfl)
          (try simp only [Act.put, List.setIfInBounds_toArray, List.set_cons_zero, List.set_cons_succ])
          refine wpAnyH_take_at (i := 4) (v := ?v4a) rfl (by kernel_rfl) (by kernel_rfl) (by kernel_rfl) (fun _ _ _ h => h) (Or.inl ⟨by rfl, ?y4a⟩) hHeld ?r4a
          case y4a => (intro w hSw; (try dsimp only at hSw); go_simp; first | done | with_reducible rfl)
          (try simp only [Act.put, List.setIfInBounds_toArray, List.set_cons_zero, List.set_cons_succ])
          refine wpAnyH_take_at (i := 5) (v := ?v5a) rfl (by kernel_rfl) (by kernel_rfl) (by kernel_rfl) (fun _ _ _ h => h) (Or.inl ⟨by rfl, ?y5a⟩) hHeld ?r5a
          case y5a => (intro w hSw; (try dsimp only at hSw); go_simp; first | done | with_reducible rfl)
          (try simp only [Act.put, List.setIfInBounds_toArray, List.set_cons_zero, List.set_cons_succ])
          refine wpAnyH_take_at (i := 6) (v := ?v6a) rfl (by kernel_rfl) (by kernel_rfl) (by kernel_rfl) (fun _ _ _ h => h) (Or.inl ⟨by rfl, ?y6a⟩) hHeld ?r6a
          case y6a => (intro w hSw; (try dsimp only at hSw); go_simp; first | done | with_reducible rfl)
          (try simp only [Act.put, List.setIfInBounds_toArray, List.set_cons_zero, List.set_cons_succ])
          refine wpAnyH_one (i := 7) (by kernel_rfl) rfl (fun KK hK => ?_)
          go_simp
          obtain ⟨hs1, hk1⟩ := HSX.out _ ((Keeps.refl (fun _ => False) wQ).drew)
          refine (HHAS.out _ hk1).mono ?_
          rintro e wD ⟨rfl, hkD⟩
          go_simp
          obtain ⟨hs2, hk2⟩ : (fun w' => w'.cell? ⟨wr.heap.size, 0, none⟩ = some (.int .i64 rule) ∧ w'.cell? ⟨wr.heap.size, 1, none⟩ = some (.int .i64 role) ∧ w'.cell? ⟨wr.heap.size, 2, none⟩ = some (.int .i64 who) ∧ w'.cell? ⟨wr.heap.size, 3, none⟩ = some (.int .i64 mid)) wD ∧ Keeps (fun _ => False) wr wD := ⟨HSX2.out _ hs1 _ hkD.2, hkD.1⟩
          refine hK.out _ _ ?s7a (fun hHeld => ?_)
          case s7a => exact hs2
          clear hK KK
          (try simp only [Act.put, List.setIfInBounds_toArray, List.set_cons_zero, List.set_cons_succ])
          refine wpAnyH_take_at (i := 8) (v := ?v8a) rfl (by kernel_rfl) (by kernel_rfl) (by kernel_rfl) (fun _ _ _ h => h) (Or.inl ⟨by rfl, ?y8a⟩) hHeld ?r8a
          case y8a => (intro w hSw; (try dsimp only at hSw); go_simp; first | done | with_reducible rfl)
          (try simp only [Act.put, List.setIfInBounds_toArray, List.set_cons_zero, List.set_cons_succ])
          refine wpAnyH_take_at (i := 9) (v := ?v9a) rfl (by kernel_rfl) (by kernel_rfl) (by kernel_rfl) (fun _ _ _ h => h) (Or.inl ⟨by rfl, ?y9a⟩) hHeld ?r9a
          case y9a => (intro w hSw; (try dsimp only at hSw); go_simp; first | done | with_reducible rfl)
          (try simp only [Act.put, List.setIfInBounds_toArray, List.set_cons_zero, List.set_cons_succ])
          refine wpAnyH_take_at (i := 10) (v := ?v10a) rfl (by kernel_rfl) (by kernel_rfl) (by kernel_rfl) (fun _ _ _ h => h) (Or.inl ⟨by rfl, ?y10a⟩) hHeld ?r10a
          case y10a => (intro w hSw; (try dsimp only at hSw); go_simp; first | done | with_reducible rfl)
          (try simp only [Act.put, List.setIfInBounds_toArray, List.set_cons_zero, List.set_cons_succ])
          refine wpAnyH_take_at (i := 11) (v := ?v11a) rfl (by kernel_rfl) (by kernel_rfl) (by kernel_rfl) (fun _ _ _ h => h) (Or.inl ⟨by rfl, ?y11a⟩) hHeld ?r11a
          case y11a => (intro w hSw; (try dsimp only at hSw); go_simp; first | done | with_reducible rfl)
          (try simp only [Act.put, List.setIfInBounds_toArray, List.set_cons_zero, List.set_cons_succ])
          refine wpAnyH_take_at (i := 12) (v := ?v12a) rfl (by kernel_rfl) (by kernel_rfl) (by kernel_rfl) (fun _ _ _ h => h) (Or.inl ⟨by rfl, ?y12a⟩) hHeld ?r12a
          case y12a => (intro w hSw; (try dsimp only at hSw); go_simp; first | done | with_reducible rfl)
          (try simp only [Act.put, List.setIfInBounds_toArray, List.set_cons_zero, List.set_cons_succ])
          refine wpAnyH_take_at (i := 13) (v := ?v13a) rfl (by kernel_rfl) (by kernel_rfl) (by kernel_rfl) (fun _ _ _ h => h) (Or.inl ⟨by rfl, ?y13a⟩) hHeld ?r13a
          case y13a => (intro w hSw; (try dsimp only at hSw); go_simp; first | done | with_reducible rfl)
          (try simp only [Act.put, List.setIfInBounds_toArray, List.set_cons_zero, List.set_cons_succ])
          refine wpAnyH_take_at (i := 14) (v := ?v14a) rfl (by kernel_rfl) (by kernel_rfl) (by kernel_rfl) (fun _ _ _ h => h) (Or.inl ⟨by rfl, ?y14a⟩) hHeld ?r14a
          case y14a => (intro w hSw; (try dsimp only at hSw); go_simp; first | done | with_reducible rfl)
          (try simp only [Act.put, List.setIfInBounds_toArray, List.set_cons_zero, List.set_cons_succ])
          refine wpAnyH_take_at (i := 15) (v := ?v15a) rfl (by kernel_rfl) (by kernel_rfl) (by kernel_rfl) (fun _ _ _ h => h) (Or.inl ⟨by rfl, ?y15a⟩) hHeld ?r15a
          case y15a => (intro w hSw; (try dsimp only at hSw); go_simp; first | done | with_reducible rfl)
          (try simp only [Act.put, List.setIfInBounds_toArray, List.set_cons_zero, List.set_cons_succ])
          refine wpAnyH_one (i := 16) (by kernel_rfl) rfl (fun KK hK => ?_)
          go_simp
          refine (HRIGHT.out _ hk2).mono ?_
          rintro e wE ⟨rfl, hkE⟩
          go_simp
          have hs3 : (fun w' => w'.cell? ⟨wr.heap.size, 0, none⟩ = some (.int .i64 rule) ∧ w'.cell? ⟨wr.heap.size, 1, none⟩ = some (.int .i64 role) ∧ w'.cell? ⟨wr.heap.size, 2, none⟩ = some (.int .i64 who) ∧ w'.cell? ⟨wr.heap.size, 3, none⟩ = some (.int .i64 mid)) wE := HSX2.out _ hs2 _ hkE.2
          refine hK.out _ _ ?s16a (fun hHeld => ?_)
          case s16a => exact hs3
          clear hK KK
          (try simp only [Act.put, List.setIfInBounds_toArray, List.set_cons_zero, List.set_cons_succ])
          refine wpAnyH_take_at (i := 17) (v := ?v17a) rfl (by kernel_rfl) (by kernel_rfl) (by kernel_rfl) (fun _ _ _ h => h) (Or.inl ⟨by rfl, ?y17a⟩) hHeld ?r17a
          case y17a => (intro w hSw; (try dsimp only at hSw); go_simp; first | done | with_reducible rfl)
          (try simp only [Act.put, List.setIfInBounds_toArray, List.set_cons_zero, List.set_cons_succ])
          refine wpAnyH_take_at (i := 18) (v := ?v18a) rfl (by kernel_rfl) (by kernel_rfl) (by kernel_rfl) (fun _ _ _ h => h) (Or.inl ⟨by rfl, ?y18a⟩) hHeld ?r18a
          case y18a => (intro w hSw; (try dsimp only at hSw); go_simp; first | done | with_reducible rfl)
          (try simp only [Act.put, List.setIfInBounds_toArray, List.set_cons_zero, List.set_cons_succ])
          refine wpAnyH_done (by kernel_rfl) ?_ _
          refine NoPanic.normal ?_
          have HF := Lib.hid (HEND.out _ hkE.1)
          clear hHeld HHAS HRIGHT HSX HSX2 HEND hs2 hs3 hk1 hk2 hkD hkE H0
          have HN2 := Lib.hid (HNOJ.out HM0.out)
          go_wp2_with fail
          go_ret
          exact ⟨false, rfl, HN2.out, HF.out⟩
    · have hjE : j = hn := by omega
      have hjI : ¬ (j : Int) < (hn : Int) := by omega
      have HY : Hid (Chk p k rs l) := (fun i s hs => HI.out i s (by
        rcases Nat.lt_or_ge i l.length with h | h
        · omega
        · rw [List.getElem?_eq_none h] at hs; cases hs) hs)
      clear HI HNO HH hh
      go_wp2_with fail
      go_ret
      exact ⟨true, rfl, ⟨fun _ => HY.out, fun _ => rfl⟩, HB⟩
end Go.Proofs.Ytahnedkdodjomaa
