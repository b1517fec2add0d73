/-
  A diagram where a variable is so, as sat's halves have it: the walk of the closure.
-/
import Derived.Test.YtfakjhcpaiaekaaMG
import Derived.Test.YtfakjhcpaiaekaaSatPart
import Derived.Test.YtfakjhcpaiaekaaBestPlain
import Derived.Test.YtfakjhcpaiaekaaMA
import Derived.Deep.RegionWith
import Derived.Deep.RegionHeld3
import Derived.Test.YtfakjhcpaiaekaaQuantState
import Derived.BigQuiet
set_option linter.unusedVariables false
set_option linter.unusedSimpArgs false
set_option linter.unnecessarySimpa false
namespace Go.Proofs.Ytfakjhcpaiaekaa
open Go.ChangeShapes Go.WideShapes Go.ChangeAt Go.RowKit Go.Deep NodePlain
def fnH (dx vx wx : Nat) : Value := .func (.func 68) #[] #[.pointer (some ⟨dx, 0, none⟩), .pointer (some ⟨vx, 0, none⟩), .pointer (some ⟨wx, 0, none⟩)]
/-- No memo. -/
def noK : Int → Option Int := fun _ => none
theorem noK_sound {V v : Int} {so : Bool} {st : St} : RSound V v so st noK := ⟨fun g m h => by cases h⟩
theorem RsRel.noK {V B v : Int} {so : Bool} {st st' : St} {f x : Int} {K' : Int → Option Int} (h : RsRel V B v so st f x st' K') : RsRel V B v so st f x st' noK := ⟨h.ok, h.hits, h.n, h.ext, h.bnd, h.isx, h.var, h.ev, noK_sound⟩
/-- What the closure captured, and the maker. -/
structure HMem (W : World) (db : Nat) (V B : Int) (st : St) (calls : Int) (Fp : Nat → Prop) (dx vx wx : Nat) (v : Int) : Prop where
  bd : Bd W db V B st calls Fp
  c2 : W.cell? ⟨dx, 0, none⟩ = some (.pointer (some ⟨db, 0, none⟩))
  c3 : W.cell? ⟨wx, 0, none⟩ = some (fnH dx vx wx)
  c4 : W.cell? ⟨vx, 0, none⟩ = some (.int .i64 v)
  n2 : ¬ Fp dx
  n3 : ¬ Fp wx
  n4 : ¬ Fp vx
section
variable {W W' : World} {db : Nat} {V B : Int} {st st' : St} {calls calls' : Int} {Fp Fp' : Nat → Prop} {dx vx wx : Nat} {v : Int} {so : Bool}
theorem HMem.move (h : HMem W db V B st calls Fp dx vx wx v) (hb : Bd W' db V B st' calls' Fp') (m : Mv W W' Fp Fp') : HMem W' db V B st' calls' Fp' dx vx wx v := by
  have nn : ∀ {x : Nat} {v : Value}, W.cell? ⟨x, 0, none⟩ = some v → ¬ Fp x → ¬ Fp' x := fun {x v} hx hn hq => by
    rcases m.fp x hq with e | e
    · exact hn e
    · have := lt_of_cell hx; simp only [] at this; omega
  exact ⟨hb, (m.keeps.cell (p := ⟨dx, 0, none⟩) (lt_of_cell h.c2) h.n2).trans h.c2, (m.keeps.cell (p := ⟨wx, 0, none⟩) (lt_of_cell h.c3) h.n3).trans h.c3, (m.keeps.cell (p := ⟨vx, 0, none⟩) (lt_of_cell h.c4) h.n4).trans h.c4, nn h.c2 h.n2, nn h.c3 h.n3, nn h.c4 h.n4⟩
theorem HMem.quiet (h : HMem W db V B st calls Fp dx vx wx v) (hk : Keeps (fun _ => False) W W') : HMem W' db V B st calls Fp dx vx wx v :=
  h.move (h.bd.quiet hk) (Mv.quiet hk)
/-- What a look leaves in memory. -/
def HPost (W : World) (db : Nat) (V B : Int) (st : St) (calls : Int) (Fp : Nat → Prop) (dx vx wx : Nat) (v : Int) (so : Bool) (f : Int) (e : Ending) (W' : World) : Prop :=
  ∃ x st' Fp', e = .returned (.int .i64 x) ∧ Hid (HMem W' db V B st' calls Fp' dx vx wx v) ∧ Hid (Mv W W' Fp Fp') ∧ Hid (RsRel V B v so st f x st' noK)
/-- What is asked ahead of a look. -/
structure HPre (V B : Int) (st : St) (f : Int) : Prop where
  isf : isN st.n f = true
  ok : Ok V st
  bnd : st.n ≤ B ∧ (st.s = true → B ≤ st.n)
  n : st.n + costN V (varN V st.L st.n f) ≤ 10000000
  room : ((st.n + costN V (varN V st.L st.n f) : Nat) : Int) < B
set_option maxRecDepth 100000
set_option maxHeartbeats 3200000
theorem half_walk (hV0 : 0 ≤ V) (hV : V ≤ 8) (hvV : v < V) (m : Nat) : ∀ (f : Int), f.toNat = m → ∀ (W : World) (st : St) (Fp : Nat → Prop),
    HMem W db V B st calls Fp dx vx wx v → HPre V B st f →
    Calls Try.prog 68 #[.int .i64 f, .bool so, .pointer (some ⟨dx, 0, none⟩), .pointer (some ⟨vx, 0, none⟩), .pointer (some ⟨wx, 0, none⟩)] W (HPost W db V B st calls Fp dx vx wx v so f) := by
  induction m using Nat.strongRecOn with
  | _ m ih =>
  intro f hfm W st Fp hM hR
  have IH := Lib.hid ih
  clear ih
  have hn6 : st.n ≤ 10000000 := by have := hR.n; omega
  have hf0 := (isN_iff.1 hR.isf).1
  have hf1 := (isN_iff.1 hR.isf).2
  have hf2 : f ≤ 10000002 := by omega
  have HM := Lib.hid hM
  have HR := Lib.hid hR
  have c2 := hM.c2
  have HPT : Hid (Calls Try.prog 48 #[.pointer (some ⟨db, 0, none⟩), .int .i64 f] W fun e W' => e = .returned (partV st.L st.n V f) ∧ Keeps (fun _ => False) W W') := part_spec hM.bd (by omega) f (by omega) (by omega)
  clear hM hR
  by_cases hstop : v < varN V st.L st.n f
  · have HP : Hid (∀ W', Keeps (fun _ => False) W W' → HPost W db V B st calls Fp dx vx wx v so f (.returned (.int .i64 f)) W') := fun W' hk => ⟨f, st, Fp, rfl, HM.out.quiet hk, Mv.quiet hk, rs_self HR.out.ok HR.out.bnd noK_sound HR.out.isf (.inr hstop)⟩
    obtain ⟨nd, w0, hpv, hw0⟩ : ∃ nd : Nd, ∃ w0 : Int, partV st.L st.n V f = .tuple #[.agg #[.int .i64 nd.1, .int .i64 nd.2.1, .int .i64 nd.2.2], .int .i64 w0] ∧ v < w0 := by
      unfold partV
      rcases hg : getN st.L st.n f with _ | ⟨u, lo, hi⟩
      · exact ⟨(0, 0, 0), V, rfl, hvV⟩
      · have := (node_parts HR.out.ok.good HR.out.isf hg).2.2.1
        exact ⟨(u, lo, hi), u, rfl, by omega⟩
    obtain ⟨n0, n1, n2⟩ := nd
    rw [hpv] at HPT
    simp only [] at HPT
    have hgt : v < w0 := hw0
    clear IH HR hpv hstop hw0
    go_enter Try.func68, Try.ntmps68
    go_upto_region 2 with (go_at_call 48; refine HPT.out.mono ?_; rintro e wA ⟨rfl, hbA⟩)
    have hk5 : Keeps (fun _ => False) W (wA.alloc (.cells #[.int .i64 n0, .int .i64 n1, .int .i64 n2] 82)) := hbA.alloc _
    have c4 := (HM.out.quiet hk5).c4
    have HK5 := Lib.hid hk5
    clear hbA HPT c2 hk5
    generalize (wA.alloc (.cells #[.int .i64 n0, .int .i64 n1, .int .i64 n2] 82)) = w5 at *
    go_wp2_with fail
    go_ret
    exact HP.out _ HK5.out
  have h2 : 2 ≤ f := Classical.byContradiction fun hn => hstop (by unfold varN; rw [if_neg (by omega)]; exact hvV)
  obtain ⟨i, rfl⟩ : ∃ i : Nat, f = (i : Int) + 2 := ⟨(f - 2).toNat, by omega⟩
  have hi : i < st.n := by omega
  obtain ⟨⟨ui, lo, hi'⟩, hL⟩ : ∃ p, st.L i = p := ⟨_, rfl⟩
  obtain ⟨p1, p2, p3, p4, p5, p6, p7, p8, p9⟩ := HR.out.ok.good.node i hi
  rw [hL] at p1 p2 p3 p4 p5 p6 p7 p8 p9
  simp only [] at p1 p2 p3 p4 p5 p6 p7 p8 p9
  obtain ⟨u, rfl⟩ := Int.eq_ofNat_of_zero_le p1
  have hget : getN st.L st.n ((i : Int) + 2) = some ((u : Int), lo, hi') := by unfold getN; rw [if_pos ⟨by omega, hf1⟩, show ((i : Int) + 2 - 2).toNat = i from by omega, hL]
  have hvar : varN V st.L st.n ((i : Int) + 2) = u := by rw [var_node hi, hL]
  have hpv : partV st.L st.n V ((i : Int) + 2) = .tuple #[.agg #[.int .i64 (u : Int), .int .i64 lo, .int .i64 hi'], .int .i64 (u : Int)] := by unfold partV; rw [hget]; rfl
  rw [hpv] at HPT
  rw [hvar] at hstop
  have HC := Lib.hid (cost_step p2 p7 p8)
  have HV := Lib.hid (And.intro hvar (And.intro p2 (And.intro p7 p8)))
  have HLI := Lib.hid hL
  clear hget hL hvar p2 p7 p8 p9 hpv
  have huv' : ¬ (v < (u : Int)) := hstop
  have h2' : ¬ ((i : Int) + 2 < 2) := by omega
  clear hstop
  go_enter Try.func68, Try.ntmps68
  go_upto_region 2 with (go_at_call 48; refine HPT.out.mono ?_; rintro e wA ⟨rfl, hbA⟩)
  have hal := (MapKept.heap_alloc wA (.cells #[.int .i64 (u : Int), .int .i64 lo, .int .i64 hi'] 82)).1
  have hk5 : Keeps (fun _ => False) W (wA.alloc (.cells #[.int .i64 (u : Int), .int .i64 lo, .int .i64 hi'] 82)) := hbA.alloc _
  have HXB : Hid (¬ Fp wA.heap.size) := fun hq => by
    have hs := hbA.size
    have := HM.out.bd.lt _ hq; omega
  have M5 := Lib.hid (HM.out.quiet hk5)
  have HK5 := Lib.hid hk5
  have HAL := Lib.hid hal
  have d0 := cell_of_heap hal 0
  have d1 := cell_of_heap hal 1
  have d2 := cell_of_heap hal 2
  simp only [List.getElem?_toArray, List.getElem?_cons_zero, List.getElem?_cons_succ] at d0 d1 d2
  clear hbA HPT c2 hk5 hal
  generalize hw5 : wA.alloc (.cells #[.int .i64 (u : Int), .int .i64 lo, .int .i64 hi'] 82) = w5 at *
  clear hw5
  have c4 := M5.out.c4
  have HNS := Lib.hid (And.intro hn6 (And.intro hf0 (And.intro hf1 (And.intro hf2 hfm))))
  clear hn6 hf0 hf1 hf2 hfm
  by_cases huE : (u : Int) = v
  · have hrel := (rs_eq HR.out.ok HR.out.bnd (v := v) (so := so) (K := noK) noK_sound hi (by rw [HLI.out, huE])).noK
    obtain ⟨x, hxe⟩ : ∃ x, (if so then hi' else lo) = x := ⟨_, rfl⟩
    rw [hxe] at hrel
    have HP : Hid (HPost W db V B st calls Fp dx vx wx v so ((i : Int) + 2) (.returned (.int .i64 x)) w5) := ⟨x, st, Fp, rfl, M5, Mv.quiet HK5.out, hrel⟩
    have hueb : ((u : Int) == v) = true := beq_iff_eq.2 huE
    clear IH HM HR hrel
    cases so with
    | true =>
      rw [if_pos rfl] at hxe
      subst hxe
      go_wp2_with fail
      go_ret
      exact HP.out
    | false =>
      rw [if_neg (by decide)] at hxe
      subst hxe
      go_wp2_with fail
      go_ret
      exact HP.out
  have huL : (u : Int) < v := by omega
  have hueb : ((u : Int) == v) = false := beq_eq_false_iff_ne.2 huE
  have HS5 : Hid (∀ W', Keeps Fp w5 W' → (fun w' => w'.cell? ⟨dx, 0, none⟩ = some (.pointer (some ⟨db, 0, none⟩)) ∧ w'.cell? ⟨wx, 0, none⟩ = some (.func (.func 68) #[] #[.pointer (some ⟨dx, 0, none⟩), .pointer (some ⟨vx, 0, none⟩), .pointer (some ⟨wx, 0, none⟩)]) ∧ w'.cell? ⟨wA.heap.size, 1, none⟩ = some (.int .i64 lo) ∧ w'.cell? ⟨wA.heap.size, 2, none⟩ = some (.int .i64 hi')) W') := fun W' hk => by
    have e := (hk.block _ (lt_of_heap HAL.out) HXB.out).trans HAL.out
    exact ⟨(hk.cell (p := ⟨dx, 0, none⟩) (lt_of_cell M5.out.c2) M5.out.n2).trans M5.out.c2, (hk.cell (p := ⟨wx, 0, none⟩) (lt_of_cell M5.out.c3) M5.out.n3).trans M5.out.c3, by rw [cell_of_heap e]; rfl, by rw [cell_of_heap e]; rfl⟩
  have H5 : (fun w' => w'.cell? ⟨dx, 0, none⟩ = some (.pointer (some ⟨db, 0, none⟩)) ∧ w'.cell? ⟨wx, 0, none⟩ = some (.func (.func 68) #[] #[.pointer (some ⟨dx, 0, none⟩), .pointer (some ⟨vx, 0, none⟩), .pointer (some ⟨wx, 0, none⟩)]) ∧ w'.cell? ⟨wA.heap.size, 1, none⟩ = some (.int .i64 lo) ∧ w'.cell? ⟨wA.heap.size, 2, none⟩ = some (.int .i64 hi')) w5.drew := HS5.out _ ((Keeps.refl _ _).drew)
  have HCL : Hid (∀ (W' : World) (st' : St) (Fp' : Nat → Prop) (f' : Int), f'.toNat < m → HMem W' db V B st' calls Fp' dx vx wx v → HPre V B st' f' → Calls Try.prog 68 #[.int .i64 f', .bool so, .pointer (some ⟨dx, 0, none⟩), .pointer (some ⟨vx, 0, none⟩), .pointer (some ⟨wx, 0, none⟩)] W' (HPost W' db V B st' calls Fp' dx vx wx v so f')) := fun W' st' Fp' f' hf hm hp => IH.out f'.toNat hf f' rfl W' st' Fp' hm hp
  have hfm := HNS.out.2.2.2.2
  have hlt1 : lo.toNat < m := by omega
  have hlt2 : hi'.toNat < m := by omega
  have hcst := HC.out
  have hRn := HR.out.n
  have hRr := HR.out.room
  rw [HV.out.1] at hRn hRr
  have hPl : HPre V B st lo := ⟨isN_iff.2 ⟨p3, by omega⟩, HR.out.ok, HR.out.bnd, by omega, by omega⟩
  have HP3 := Lib.hid (And.intro hPl (And.intro hcst (And.intro hRn (And.intro hRr hfm))))
  clear hcst hRn hRr hPl hfm
  go_upto_region 8 with fail
  obtain ⟨hPl, hcst, hRn, hRr, hfm⟩ := HP3.out
  obtain ⟨hn6, hf0, hf1, hf2, _⟩ := HNS.out
  clear d0 d1 d2 c4
  refine wp_region_noPanic ?_
  refine wp_region_held_drew (S := (fun w' => w'.cell? ⟨dx, 0, none⟩ = some (.pointer (some ⟨db, 0, none⟩)) ∧ w'.cell? ⟨wx, 0, none⟩ = some (.func (.func 68) #[] #[.pointer (some ⟨dx, 0, none⟩), .pointer (some ⟨vx, 0, none⟩), .pointer (some ⟨wx, 0, none⟩)]) ∧ w'.cell? ⟨wA.heap.size, 1, none⟩ = some (.int .i64 lo) ∧ w'.cell? ⟨wA.heap.size, 2, none⟩ = some (.int .i64 hi'))) (by kernel_rfl) H5 (fun hHeld => ?_)
  refine wpAnyH_take_at (i := 0) (v := ?v0a) rfl (by kernel_rfl) (by kernel_rfl) (by kernel_rfl) (fun _ _ _ h => h) (Or.inl ⟨by rfl, ?y0a⟩) hHeld ?r0a
  case y0a => (intro w hSw; (try dsimp only at hSw); go_simp; first | done | with_reducible rfl)
  (try simp only [Act.put, List.setIfInBounds_toArray, List.set_cons_zero, List.set_cons_succ])
  refine wpAnyH_take_at (i := 1) (v := ?v1a) rfl (by kernel_rfl) (by kernel_rfl) (by kernel_rfl) (fun _ _ _ h => h) (Or.inl ⟨by rfl, ?y1a⟩) hHeld ?r1a
  case y1a => (intro w hSw; (try dsimp only at hSw); go_simp; first | done | with_reducible rfl)
  (try simp only [Act.put, List.setIfInBounds_toArray, List.set_cons_zero, List.set_cons_succ])
  refine wpAnyH_take_at (i := 2) (v := ?v2a) rfl (by kernel_rfl) (by kernel_rfl) (by kernel_rfl) (fun _ _ _ h => h) (Or.inl ⟨by rfl, ?y2a⟩) hHeld ?r2a
  case y2a => (intro w hSw; (try dsimp only at hSw); go_simp; first | done | with_reducible rfl)
  (try simp only [Act.put, List.setIfInBounds_toArray, List.set_cons_zero, List.set_cons_succ])
  refine wpAnyH_take_at (i := 3) (v := ?v3a) rfl (by kernel_rfl) (by kernel_rfl) (by kernel_rfl) (fun _ _ _ h => h) (Or.inl ⟨by rfl, ?y3a⟩) hHeld ?r3a
  case y3a => (intro w hSw; (try dsimp only at hSw); go_simp; first | done | with_reducible rfl)
  (try simp only [Act.put, List.setIfInBounds_toArray, List.set_cons_zero, List.set_cons_succ])
  refine wpAnyH_take_at (i := 4) (v := ?v4a) rfl (by kernel_rfl) (by kernel_rfl) (by kernel_rfl) (fun _ _ _ h => h) (Or.inl ⟨by rfl, ?y4a⟩) hHeld ?r4a
  case y4a => (intro w hSw; (try dsimp only at hSw); go_simp; first | done | with_reducible rfl)
  (try simp only [Act.put, List.setIfInBounds_toArray, List.set_cons_zero, List.set_cons_succ])
  refine wpAnyH_take_at (i := 5) (v := ?v5a) rfl (by kernel_rfl) (by kernel_rfl) (by kernel_rfl) (fun _ _ _ h => h) (Or.inl ⟨by rfl, ?y5a⟩) hHeld ?r5a
  case y5a => (intro w hSw; (try dsimp only at hSw); go_simp; first | done | with_reducible rfl)
  (try simp only [Act.put, List.setIfInBounds_toArray, List.set_cons_zero, List.set_cons_succ])
  refine wpAnyH_take_at (i := 7) (v := ?v7a) rfl (by kernel_rfl) (by kernel_rfl) (by kernel_rfl) (fun _ _ _ h => h) (Or.inl ⟨by rfl, ?y7a⟩) hHeld ?r7a
  case y7a => (intro w hSw; (try dsimp only at hSw); go_simp; first | done | with_reducible rfl)
  (try simp only [Act.put, List.setIfInBounds_toArray, List.set_cons_zero, List.set_cons_succ])
  refine wpAnyH_take_at (i := 8) (v := ?v8a) rfl (by kernel_rfl) (by kernel_rfl) (by kernel_rfl) (fun _ _ _ h => h) (Or.inl ⟨by rfl, ?y8a⟩) hHeld ?r8a
  case y8a => (intro w hSw; (try dsimp only at hSw); go_simp; first | done | with_reducible rfl)
  (try simp only [Act.put, List.setIfInBounds_toArray, List.set_cons_zero, List.set_cons_succ])
  refine wpAnyH_take_at (i := 9) (v := ?v9a) rfl (by kernel_rfl) (by kernel_rfl) (by kernel_rfl) (fun _ _ _ h => h) (Or.inl ⟨by rfl, ?y9a⟩) hHeld ?r9a
  case y9a => (intro w hSw; (try dsimp only at hSw); go_simp; first | done | with_reducible rfl)
  (try simp only [Act.put, List.setIfInBounds_toArray, List.set_cons_zero, List.set_cons_succ])
  refine wpAnyH_take_at (i := 10) (v := ?v10a) rfl (by kernel_rfl) (by kernel_rfl) (by kernel_rfl) (fun _ _ _ h => h) (Or.inl ⟨by rfl, ?y10a⟩) hHeld ?r10a
  case y10a => (intro w hSw; (try dsimp only at hSw); go_simp; first | done | with_reducible rfl)
  (try simp only [Act.put, List.setIfInBounds_toArray, List.set_cons_zero, List.set_cons_succ])
  refine wpAnyH_one (i := 6) (by kernel_rfl) rfl (fun KK hK => ?_)
  go_simp
  refine (HCL.out _ st Fp lo hlt1 (M5.out.quiet ((Keeps.refl _ _).drew)) hPl).mono ?_
  rintro e wB ⟨x, s1, F1, rfl, MB, VB, RB⟩
  go_simp
  have VB5 : Hid (Mv w5 wB Fp F1) := (Mv.quiet (Fp := Fp) ((Keeps.refl (fun _ => False) w5).drew)).trans VB.out
  have hvy : varN V s1.L s1.n hi' = varN V st.L st.n hi' := RB.out.ext.var (by omega)
  have hPh : HPre V B s1 hi' := by
    have b1 := RB.out.n
    exact ⟨RB.out.ext.is (isN_iff.2 ⟨p5, by omega⟩), RB.out.ok, RB.out.bnd, by rw [hvy]; omega, by rw [hvy]; omega⟩
  refine hK.out _ _ ?s6a (fun hHeld => ?_)
  case s6a => exact HS5.out _ VB5.out.keeps
  clear hK KK
  (try simp only [Act.put, List.setIfInBounds_toArray, List.set_cons_zero, List.set_cons_succ])
  refine wpAnyH_one (i := 11) (by kernel_rfl) rfl (fun KK hK => ?_)
  go_simp
  refine (HCL.out _ s1 F1 hi' hlt2 MB.out hPh).mono ?_
  rintro e wC ⟨y, s2, F2, rfl, MC, VC, RC⟩
  go_simp
  have VC5 : Hid (Mv w5 wC Fp F2) := VB5.out.trans VC.out
  obtain ⟨r, hr⟩ : ∃ r, makeM V B s2 u x y = r := ⟨_, rfl⟩
  obtain ⟨j1, j2, j3⟩ := rs_join hV0 HR.out.ok hi HLI.out huL RB.out RC.out hRr hr
  have hfit := fitN_iff.1 j1
  have hMK : Calls Try.prog 57 #[.pointer (some ⟨db, 0, none⟩), .int .i64 (u : Int), .int .i64 x, .int .i64 y] wC fun e W2 => ∃ F3, e = .returned (.int .i64 r.1) ∧ Hid (HMem W2 db V B r.2 calls F3 dx vx wx v) ∧ Hid (Mv wC W2 F2 F3) := by
    have q := bmake_spec MC.out.bd (by omega) (u : Int) x y (by omega) (by omega) (by omega) (by omega) (by omega) (by omega)
    rw [hr] at q
    refine q.mono fun e W2 ⟨h1, h2⟩ => ?_
    obtain ⟨F3, m1, m2⟩ := h2.out
    exact ⟨F3, h1, MC.out.move m1 m2, m2⟩
  have HMK := Lib.hid hMK
  have HREL := Lib.hid j3.noK
  have hu := isN_iff.1 j3.isx
  have hrn := j3.n
  rw [HV.out.1] at hrn
  have hu1 : r.1 ≤ 100000000 := by omega
  have hu0 := hu.1
  clear hMK j1 j2 j3 hfit hu hrn hr
  refine hK.out _ _ ?s11a (fun hHeld => ?_)
  case s11a => exact HS5.out _ VC5.out.keeps
  clear hK KK
  (try simp only [Act.put, List.setIfInBounds_toArray, List.set_cons_zero, List.set_cons_succ])
  refine wpAnyH_one (i := 12) (by kernel_rfl) rfl (fun KK hK => ?_)
  go_simp
  refine HMK.out.mono ?_
  rintro e wD ⟨F3, rfl, MD, VD⟩
  go_simp
  have VD5 : Hid (Mv w5 wD Fp F3) := VC5.out.trans VD.out
  refine hK.out _ _ ?s12a (fun hHeld => ?_)
  case s12a => exact HS5.out _ VD5.out.keeps
  clear hK KK
  (try simp only [Act.put, List.setIfInBounds_toArray, List.set_cons_zero, List.set_cons_succ])
  refine wpAnyH_take_at (i := 13) (v := ?v13a) rfl (by kernel_rfl) (by kernel_rfl) (by kernel_rfl) (fun _ _ _ h => h) (Or.inl ⟨by rfl, ?y13a⟩) hHeld ?r13a
  case y13a => (intro w hSw; (try dsimp only at hSw); go_simp; first | done | with_reducible rfl)
  (try simp only [Act.put, List.setIfInBounds_toArray, List.set_cons_zero, List.set_cons_succ])
  refine wpAnyH_done (by kernel_rfl) ?_ _
  refine NoPanic.normal ?_
  clear hHeld H5 HS5 HCL IH MB VB VC VB5 HMK hPl hPh RB RC
  have HP : Hid (HPost W db V B st calls Fp dx vx wx v so ((i : Int) + 2) (.returned (.int .i64 r.1)) wD) :=
    ⟨r.1, r.2, F3, rfl, MD, (Mv.quiet HK5.out).trans VD5.out, HREL⟩
  clear MD VD5 HREL
  go_wp2_with fail
  go_ret
  exact HP.out
end
end Go.Proofs.Ytfakjhcpaiaekaa
/-
  Both halves of a diagram, as sat takes them: a variable not so, and so.
-/
set_option linter.unusedVariables false
set_option linter.unusedSimpArgs false
set_option linter.unnecessarySimpa false
namespace Go.Proofs.Ytfakjhcpaiaekaa
open Go.ChangeShapes Go.WideShapes Go.ChangeAt Go.RowKit Go.Deep NodePlain
/-- What the halves leave. -/
structure HvR (W : World) (d : Nat) (V B : Int) (st : St) (K : Nat) (calls : Int) (Fp : Nat → Prop) (E : (Nat → Bool) → Bool) (v : Nat) (lo hi : Int) (st' : St) (F' : Nat → Prop) (W' : World) : Prop where
  bd : Bd W' d V B st' calls F'
  mv : Mv W W' Fp F'
  fine : Fine V B (K + 2) st'
  n : st'.n ≤ st.n + 2 * 2 ^ V.toNat
  ext : Ext st.L st.n st'.L st'.n
  lo : Num st' lo (fun β => E (putB β (v : Int) false))
  hi : Num st' hi (fun β => E (putB β (v : Int) true))
section
variable {W : World} {d dx : Nat} {V B : Int} {st : St} {calls : Int} {Fp : Nat → Prop} {K : Nat}
set_option maxRecDepth 100000
set_option maxHeartbeats 1600000
theorem halves_spec (h : Bd W d V B st calls Fp) (hdx : W.cell? ⟨dx, 0, none⟩ = some (.pointer (some ⟨d, 0, none⟩))) (hnd : ¬ Fp dx) (hV0 : 0 ≤ V) (hV : V ≤ 8) (hf : Fine V B K st) (hK : K ≤ 30000) {f : Int} {E : (Nat → Bool) → Bool} (hi : Num st f E) {v : Nat} (hv : (v : Int) < V) (room : ((st.n + 2 * 2 ^ V.toNat : Nat) : Int) < B) :
    Calls Try.prog 67 #[.int .i64 f, .int .i64 v, .pointer (some ⟨dx, 0, none⟩)] W fun e W' => ∃ lo hi st' F', e = .returned (.tuple #[.int .i64 lo, .int .i64 hi]) ∧ Hid (HvR W d V B st K calls Fp E v lo hi st' F' W') := by
  have hn : st.n ≤ 8000000 := by have := hf.wf.n; omega
  have HH := Lib.hid h
  have HF := Lib.hid hf
  have HFI := Lib.hid hi
  have HRM := Lib.hid room
  have HD := Lib.hid hdx
  have HND := Lib.hid hnd
  clear h hf hi room hdx hnd
  go_enter Try.func67, Try.ntmps67
  have hav := (MapKept.heap_alloc W (.cells #[.int .i64 v] 3)).1
  have hkv : Keeps (fun _ => False) W (W.alloc (.cells #[.int .i64 v] 3)) := (Keeps.refl _ _).alloc _
  have hsv : (W.alloc (.cells #[.int .i64 v] 3)).heap.size = W.heap.size + 1 := by simp
  have HAV := Lib.hid hav
  have HKV := Lib.hid hkv
  have HSV := Lib.hid hsv
  clear hav hkv hsv
  go_upto_region 1 with fail
  generalize W.alloc (.cells #[.int .i64 v] 3) = w1 at *
  have ha7 := (MapKept.heap_alloc w1 (.cells #[.nilFunc] 104)).1
  have c7 := cell_of_heap ha7 0
  have f7 := free_of_heap ha7 0
  have l7 := lt_of_heap ha7
  simp only [List.getElem?_toArray, List.getElem?_cons_zero] at c7
  have hst : (store ⟨w1.heap.size, 0, none⟩ (fnH dx W.heap.size w1.heap.size)).run Try.prog (w1.alloc (.cells #[.nilFunc] 104)) = .ok () ((w1.alloc (.cells #[.nilFunc] 104)).setCell ⟨w1.heap.size, 0, none⟩ (fnH dx W.heap.size w1.heap.size)) := by
    unfold fnH
    rw [run_store _ _ _ _ _ rfl]
    simp only [stored, c7, f7]
    rfl
  unfold fnH at hst
  have h8 := (MapKept.heap_alloc w1 (.cells #[fnH dx W.heap.size w1.heap.size] 104)).1
  have k8 : Keeps (fun _ => False) w1 (w1.alloc (.cells #[fnH dx W.heap.size w1.heap.size] 104)) := (Keeps.refl _ _).alloc _
  have e8 := cell_of_heap h8 0
  simp only [List.getElem?_toArray, List.getElem?_cons_zero] at e8
  have HE8 := Lib.hid e8
  have HK8 := Lib.hid k8
  clear ha7 h8 k8 e8
  go_upto_region 3 with fail
  clear hst f7 c7 l7
  unfold fnH at HE8 HK8
  generalize w1.alloc (.cells #[.func (.func 68) #[] #[.pointer (some ⟨dx, 0, none⟩), .pointer (some ⟨W.heap.size, 0, none⟩), .pointer (some ⟨w1.heap.size, 0, none⟩)]] 104) = w3 at *
  have kW3 : Keeps (fun _ => False) W w3 := HKV.out.trans HK8.out
  have hFl : ∀ x, Fp x → x < W.heap.size := HH.out.lt
  have hsv := HSV.out
  have M3 : HMem w3 d V B st calls Fp dx W.heap.size w1.heap.size v := by
    refine ⟨HH.out.quiet kW3, (kW3.cell (p := ⟨dx, 0, none⟩) (lt_of_cell HD.out) (fun x => x)).trans HD.out, HE8.out, (HK8.out.cell (p := ⟨W.heap.size, 0, none⟩) (lt_of_heap HAV.out) (fun x => x)).trans (by rw [cell_of_heap HAV.out]; rfl), HND.out, fun h => by have := hFl _ h; omega, fun h => by have := hFl _ h; omega⟩
  have hvn : 0 ≤ varN V st.L st.n f := var_pos hV0 HF.out.wf.ok.good f
  have hcp := cost_pow (V := V) hvn
  have hp8 := pow_V hV
  have hRM := HRM.out
  have R1 : HPre V B st f := ⟨HFI.out.is, HF.out.wf.ok, HF.out.bnd, by omega, by omega⟩
  have H5 : (fun w' => w'.cell? ⟨w1.heap.size, 0, none⟩ = some (.func (.func 68) #[] #[.pointer (some ⟨dx, 0, none⟩), .pointer (some ⟨W.heap.size, 0, none⟩), .pointer (some ⟨w1.heap.size, 0, none⟩)])) w3.drew := HE8.out
  have HM3 := Lib.hid M3
  have HW3 := Lib.hid kW3
  have HC1 := Lib.hid (half_walk (so := false) hV0 hV hv f.toNat f rfl w3.drew st Fp (M3.quiet ((Keeps.refl _ _).drew)) R1)
  have HC2 : Hid (∀ wB s1 F1, HMem wB d V B s1 calls F1 dx W.heap.size w1.heap.size v → HPre V B s1 f → Calls Try.prog 68 #[.int .i64 f, .bool true, .pointer (some ⟨dx, 0, none⟩), .pointer (some ⟨W.heap.size, 0, none⟩), .pointer (some ⟨w1.heap.size, 0, none⟩)] wB (HPost wB d V B s1 calls F1 dx W.heap.size w1.heap.size v true f)) := fun wB s1 F1 hm hp => half_walk hV0 hV hv f.toNat f rfl wB s1 F1 hm hp
  have HCP := Lib.hid hcp
  have HP8 := Lib.hid hp8
  clear M3 kW3 hFl hsv hvn hcp hp8 hRM R1
  refine wp_region_noPanic ?_
  refine wp_region_held_drew (S := (fun w' => w'.cell? ⟨w1.heap.size, 0, none⟩ = some (.func (.func 68) #[] #[.pointer (some ⟨dx, 0, none⟩), .pointer (some ⟨W.heap.size, 0, none⟩), .pointer (some ⟨w1.heap.size, 0, none⟩)]))) (by kernel_rfl) H5 (fun hHeld => ?_)
  refine wpAnyH_take_at (i := 0) (v := ?v0a) rfl (by kernel_rfl) (by kernel_rfl) (by kernel_rfl) (fun _ _ _ h => h) (Or.inl ⟨by rfl, ?y0a⟩) hHeld ?r0a
  case y0a => (intro w hSw; (try dsimp only at hSw); go_simp; first | done | with_reducible rfl)
  (try simp only [Act.put, List.setIfInBounds_toArray, List.set_cons_zero, List.set_cons_succ])
  refine wpAnyH_take_at (i := 1) (v := ?v1a) rfl (by kernel_rfl) (by kernel_rfl) (by kernel_rfl) (fun _ _ _ h => h) (Or.inl ⟨by rfl, ?y1a⟩) hHeld ?r1a
  case y1a => (intro w hSw; (try dsimp only at hSw); go_simp; first | done | with_reducible rfl)
  (try simp only [Act.put, List.setIfInBounds_toArray, List.set_cons_zero, List.set_cons_succ])
  refine wpAnyH_take_at (i := 3) (v := ?v3a) rfl (by kernel_rfl) (by kernel_rfl) (by kernel_rfl) (fun _ _ _ h => h) (Or.inl ⟨by rfl, ?y3a⟩) hHeld ?r3a
  case y3a => (intro w hSw; (try dsimp only at hSw); go_simp; first | done | with_reducible rfl)
  (try simp only [Act.put, List.setIfInBounds_toArray, List.set_cons_zero, List.set_cons_succ])
  refine wpAnyH_take_at (i := 4) (v := ?v4a) rfl (by kernel_rfl) (by kernel_rfl) (by kernel_rfl) (fun _ _ _ h => h) (Or.inl ⟨by rfl, ?y4a⟩) hHeld ?r4a
  case y4a => (intro w hSw; (try dsimp only at hSw); go_simp; first | done | with_reducible rfl)
  (try simp only [Act.put, List.setIfInBounds_toArray, List.set_cons_zero, List.set_cons_succ])
  refine wpAnyH_one (i := 2) (by kernel_rfl) rfl (fun KK hK => ?_)
  go_simp
  refine HC1.out.mono ?_
  rintro e wB ⟨x, s1, F1, rfl, MB, VB, RB⟩
  go_simp
  have hvy : varN V s1.L s1.n f = varN V st.L st.n f := RB.out.ext.var (isN_iff.1 HFI.out.is).2
  have hPh : HPre V B s1 f := by
    have b1 := RB.out.n
    have b2 := HCP.out
    have b3 := HP8.out
    have b4 := HRM.out
    exact ⟨RB.out.ext.is HFI.out.is, RB.out.ok, RB.out.bnd, by rw [hvy]; omega, by rw [hvy]; omega⟩
  have HC3 := Lib.hid (HC2.out wB s1 F1 MB.out hPh)
  have HVY := Lib.hid hvy
  clear HC1 HC2 hPh hvy
  refine hK.out _ _ ?s2a (fun hHeld => ?_)
  case s2a => exact MB.out.c3
  clear hK KK
  (try simp only [Act.put, List.setIfInBounds_toArray, List.set_cons_zero, List.set_cons_succ])
  refine wpAnyH_one (i := 5) (by kernel_rfl) rfl (fun KK hK => ?_)
  go_simp
  refine HC3.out.mono ?_
  rintro e wC ⟨y, s2, F2, rfl, MC, VC, RC⟩
  go_simp
  refine hK.out _ _ ?s5a (fun hHeld => ?_)
  case s5a => exact MC.out.c3
  clear hK KK
  (try simp only [Act.put, List.setIfInBounds_toArray, List.set_cons_zero, List.set_cons_succ])
  refine wpAnyH_take_at (i := 6) (v := ?v6a) rfl (by kernel_rfl) (by kernel_rfl) (by kernel_rfl) (fun _ _ _ h => h) (Or.inl ⟨by rfl, ?y6a⟩) hHeld ?r6a
  case y6a => (intro w hSw; (try dsimp only at hSw); go_simp; first | done | with_reducible rfl)
  (try simp only [Act.put, List.setIfInBounds_toArray, List.set_cons_zero, List.set_cons_succ])
  refine wpAnyH_take_at (i := 7) (v := ?v7a) rfl (by kernel_rfl) (by kernel_rfl) (by kernel_rfl) (fun _ _ _ h => h) (Or.inl ⟨by rfl, ?y7a⟩) hHeld ?r7a
  case y7a => (intro w hSw; (try dsimp only at hSw); go_simp; first | done | with_reducible rfl)
  (try simp only [Act.put, List.setIfInBounds_toArray, List.set_cons_zero, List.set_cons_succ])
  refine wpAnyH_done (by kernel_rfl) ?_ _
  refine NoPanic.normal ?_
  have HP : Hid (HvR W d V B st K calls Fp E v x y s2 F2 wC) := by
    have hw := HF.out.wf
    have r1 := RB.out.n
    have r2 := RB.out.hits
    have r3 := RC.out.n
    have r4 := RC.out.hits
    rw [HVY.out] at r3
    have h1 := hw.n
    have h2 := hw.h0
    have h3 := hw.h1
    have b2 := HCP.out
    have b3 := HP8.out
    have ge := hw.ok.good
    refine ⟨MC.out.bd, ((Mv.quiet (Fp := Fp) (HW3.out.drew)).trans VB.out).trans VC.out, ⟨⟨RC.out.ok, by omega, by omega, by omega⟩, RC.out.bnd⟩, by omega, RB.out.ext.trans RC.out.ext, ⟨RC.out.ext.is RB.out.isx, fun β => ?_⟩, ⟨RC.out.isx, fun β => ?_⟩⟩
    · rw [RC.out.ext.ev RB.out.ok.good β (isN_iff.1 RB.out.isx).2, RB.out.ev, HFI.out.ev]
    · rw [RC.out.ev, RB.out.ext.ev ge _ (isN_iff.1 HFI.out.is).2, HFI.out.ev]
  clear hHeld H5 HC3 MB VB RB MC VC RC HM3 HW3 HF HFI HH HCP HP8 HVY
  go_wp2_with fail
  go_ret2
  exact ⟨x, y, s2, F2, rfl, HP⟩
end
end Go.Proofs.Ytfakjhcpaiaekaa
