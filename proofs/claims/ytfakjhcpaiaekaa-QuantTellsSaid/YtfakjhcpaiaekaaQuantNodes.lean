/-
  All nodes that a diagram comes to: the walk.
-/
import Derived.Test.YtfakjhcpaiaekaaMG
import Derived.Test.YtfakjhcpaiaekaaMD
import Derived.BigQuiet
set_option linter.unusedVariables false
set_option linter.unusedSimpArgs false
set_option linter.unnecessarySimpa false
namespace Go.Proofs.Ytfakjhcpaiaekaa
open Go.ChangeShapes Go.WideShapes Go.ChangeAt Go.RowKit Go.Deep NodePlain
/-- A map of numbers whose keys are those of a list. -/
def NMap (W : World) (mb n : Nat) (K : Int → Option Int) (L : List Int) : Prop := ∃ D : DataW Unit, W.ownsMap Try.prog 3 (plainElem (H := Unit) Try.prog 3) mb n D ∧
  (∀ x : Int, Go.Maps.has D (.int .i64 x) = (K x).isSome ∧ D.atKey (.int .i64 x) (.lit (.int .i64 0)) = .lit (.int .i64 ((K x).getD 0))) ∧ Go.Maps.size D = L.length ∧ L.length = n ∧ ∀ x, (K x).isSome = decide (x ∈ L)
section
variable {W W' : World} {mb n : Nat} {K : Int → Option Int} {L : List Int}
theorem NMap.imap (h : NMap W mb n K L) : IMap W mb n K := by
  obtain ⟨D, h1, h2, _⟩ := h
  exact ⟨D, h1, h2⟩
theorem NMap.keeps {S : Nat → Prop} (h : NMap W mb n K L) (hk : Keeps S W W') (hs : ¬ S mb) : NMap W' mb n K L := by
  obtain ⟨D, h1, h2⟩ := h
  obtain ⟨es, clock, hb, r⟩ := h1
  exact ⟨D, ⟨es, clock, (hk.block mb (lt_of_heap hb) hs).trans hb, r⟩, h2⟩
theorem NMap.zero (W : World) : NMap (W.alloc (.map #[] 0)) W.heap.size 0 (fun _ => none) [] := ⟨_, World.ownsMap_made _ _ _ _, fun a => ⟨rfl, by simp [DataW.atKey]⟩, rfl, rfl, fun a => rfl⟩
theorem NMap.update (h : NMap W mb n K L) (hn : n < maxLen) {x y : Int} (hx0 : -9223372036854775808 ≤ x) (hx1 : x ≤ 9223372036854775807) (hy0 : -9223372036854775808 ≤ y) (hy1 : y ≤ 9223372036854775807) (hx : x ∉ L) :
    ∃ W', (Instr.mapUpdate 89 (.map (some mb)) (.int .i64 x) (.int .i64 y)).run Try.prog W = .ok () W' ∧ NMap W' mb (n + 1) (setK K x y) (L ++ [x]) ∧ Keeps (fun k => k = mb) W W' := by
  obtain ⟨D, hown, hD, hsz, hnl, hL⟩ := h
  obtain ⟨w', hrun, r1, r2⟩ := hown.update (t := 89) (e := 3) mi_keyed Try.underlying89 hn (mi_key hx0 hx1) (plainElem_int Try.underlying3 (mi_wf hy0 hy1))
  refine ⟨w', hrun, ?_, r2.os, r2.tape, r2.output, r2.size, fun k hk hs => ?_⟩
  · have hM := hown.isMap
    have hT := hown.tidy mi_keyed
    refine ⟨_, r1, fun a => ?_, ?_, by rw [List.length_append, hnl]; rfl, fun a => ?_⟩
    · unfold setK
      by_cases e : a = x
      · subst e
        have hkl : WideAt.IsKeyLit (.int .i64 a) := trivial
        rw [Go.Maps.has_put_same hM hkl, Go.Maps.atKey_put_same hM hkl, if_pos rfl]
        exact ⟨rfl, rfl⟩
      · have hne : Lit.int .i64 a ≠ .int .i64 x := fun h => e (by cases h; rfl)
        rw [Go.Maps.has_put_other hne, Go.Maps.atKey_put_other hne, if_neg e]
        exact hD a
    · have h0 : Go.Maps.has D (.int .i64 x) = false := by rw [(hD x).1, hL x]; exact decide_eq_false hx
      rw [Go.Maps.size_put hT, h0, hsz]
      simp
    · unfold setK
      by_cases e : a = x
      · subst e
        rw [if_pos rfl]
        simp
      · rw [if_neg e, hL a]
        exact decide_eq_decide.2 (by simp [e])
  · exact r2.block k hk (fun e => hs (by cases e; rfl))
end
def fnN (dx kx wx : Nat) : Value := .func (.func 79) #[] #[.pointer (some ⟨dx, 0, none⟩), .pointer (some ⟨kx, 0, none⟩), .pointer (some ⟨wx, 0, none⟩)]
/-- What the closure captured, and the maker. -/
structure NdMem (W : World) (db mb : Nat) (V B : Int) (st : St) (calls : Int) (Fp : Nat → Prop) (N : Nat) (K : Int → Option Int) (Lk : List Int) (dx kx wx : Nat) : Prop where
  bd : Bd W db V B st calls Fp
  mp : NMap W mb N K Lk
  c1 : W.cell? ⟨kx, 0, none⟩ = some (.map (some mb))
  c2 : W.cell? ⟨dx, 0, none⟩ = some (.pointer (some ⟨db, 0, none⟩))
  c3 : W.cell? ⟨wx, 0, none⟩ = some (fnN dx kx wx)
  f0 : ¬ Fp mb
  n1 : kx ≠ mb
  n2 : dx ≠ mb
  n3 : wx ≠ mb
  kv : ∀ x v, K x = some v → ∃ lo hi, getN st.L st.n x = some (v, lo, hi)
section
variable {W W' : World} {db mb : Nat} {V B : Int} {st : St} {calls : Int} {Fp : Nat → Prop} {N N' : Nat} {K K' : Int → Option Int} {Lk Lk' : List Int} {dx kx wx : Nat}
theorem NdMem.move (h : NdMem W db mb V B st calls Fp N K Lk dx kx wx) (hm : NMap W' mb N' K' Lk') (hk : Keeps (fun k => k = mb) W W') (hkv : ∀ x v, K' x = some v → ∃ lo hi, getN st.L st.n x = some (v, lo, hi)) : NdMem W' db mb V B st calls Fp N' K' Lk' dx kx wx :=
  ⟨h.bd.keeps hk (fun x hx e => h.f0 (e ▸ hx)), hm, (hk.cell (p := ⟨kx, 0, none⟩) (lt_of_cell h.c1) h.n1).trans h.c1, (hk.cell (p := ⟨dx, 0, none⟩) (lt_of_cell h.c2) h.n2).trans h.c2, (hk.cell (p := ⟨wx, 0, none⟩) (lt_of_cell h.c3) h.n3).trans h.c3, h.f0, h.n1, h.n2, h.n3, hkv⟩
theorem NdMem.quiet (h : NdMem W db mb V B st calls Fp N K Lk dx kx wx) (hk : Keeps (fun _ => False) W W') : NdMem W' db mb V B st calls Fp N K Lk dx kx wx :=
  h.move (h.mp.keeps hk (fun x => x)) (hk.mono (fun _ _ x => x.elim)) h.kv
def NdPost (W : World) (db mb : Nat) (V B : Int) (st : St) (calls : Int) (Fp : Nat → Prop) (N : Nat) (Lk : List Int) (dx kx wx : Nat) (f : Int) (e : Ending) (W' : World) : Prop :=
  ∃ N' K' Lk', e = .returned (.tuple #[]) ∧ Hid (NdMem W' db mb V B st calls Fp N' K' Lk' dx kx wx) ∧ Hid (Keeps (fun k => k = mb) W W') ∧ Hid (Dfs st.L st.n Lk f Lk') ∧ Hid (N' ≤ N + costN V (varN V st.L st.n f))
set_option maxRecDepth 100000
set_option maxHeartbeats 3200000
theorem nodes_walk (hV : V ≤ 8) (g : NodePlain.Good V st.L st.n) (hn : st.n ≤ 10000000) (m : Nat) : ∀ (f : Int), f.toNat = m → ∀ (W : World) (N : Nat) (K : Int → Option Int) (Lk : List Int),
    NdMem W db mb V B st calls Fp N K Lk dx kx wx → (getN st.L st.n f = none ∨ isN st.n f = true) → -9223372036854775808 ≤ f → f ≤ 9223372036854775807 → N + costN V (varN V st.L st.n f) ≤ 1000000 →
    Calls Try.prog 79 #[.int .i64 f, .pointer (some ⟨dx, 0, none⟩), .pointer (some ⟨kx, 0, none⟩), .pointer (some ⟨wx, 0, none⟩)] W (NdPost W db mb V B st calls Fp N Lk dx kx wx f) := by
  induction m using Nat.strongRecOn with
  | _ m ih =>
  intro f hfm W N K Lk hM hf hb0 hb1 hN
  have IH := Lib.hid ih
  have HN0 := Lib.hid hn
  clear ih
  have HM := Lib.hid hM
  have c2 := hM.c2
  have HMD0 := Lib.hid (bmade_spec hM.bd (by omega) f (by omega) (by omega))
  have HLK : Hid (∀ W', Keeps (fun _ => False) W W' → (Instr.lookup 89 (.map (some mb)) (.int .i64 f) true).run Try.prog W' = .ok (.tuple #[.int .i64 ((K f).getD 0), .bool (K f).isSome]) W') := fun W' hk => (hM.quiet hk).mp.imap.look (by omega) (by omega)
  have HIN : Hid ((K f).isSome = decide (f ∈ Lk)) := by obtain ⟨_, _, _, _, _, h⟩ := hM.mp; exact h f
  clear hM hn
  by_cases hlow : getN st.L st.n f = none
  · have hget := hlow
    have HP : Hid (∀ W', Keeps (fun _ => False) W W' → NdPost W db mb V B st calls Fp N Lk dx kx wx f (.returned (.tuple #[])) W') := fun W' hk => ⟨N, K, Lk, rfl, HM.out.quiet hk, hk.mono (fun _ _ x => x.elim), .stop Lk f (.inr hget), by show N ≤ _; omega⟩
    rw [hget] at HMD0
    have HMD : Hid (Calls Try.prog 56 #[.pointer (some ⟨db, 0, none⟩), .int .i64 f] W fun e W2 => e = .returned (.tuple #[.agg #[.int .i64 0, .int .i64 0, .int .i64 0], .bool false]) ∧ Below W.heap.size W W2) := HMD0.out
    clear HMD0 hf hN hfm IH hlow
    go_enter Try.func79, Try.ntmps79
    go_upto_region 1 with (go_at_call 56; refine HMD.out.mono ?_; rintro e wA ⟨rfl, hbA⟩)
    have hk5 : Keeps (fun _ => False) W (wA.alloc (.cells #[.int .i64 0, .int .i64 0, .int .i64 0] 82)) := (Keeps.of_below hbA (Nat.le_refl _)).alloc _
    have c1 := (HM.out.quiet hk5).c1
    have hlook := HLK.out _ hk5
    have HK5 := Lib.hid hk5
    generalize wA.alloc (.cells #[.int .i64 0, .int .i64 0, .int .i64 0] 82) = w5 at *
    clear hbA HMD c2 hk5
    generalize (K f).isSome = bo at *
    generalize (K f).getD 0 = va at *
    cases bo with
    | true =>
      go_wp2_with fail
      first | go_ret | go_end0
      exact HP.out _ HK5.out
    | false =>
      go_wp2_with fail
      first | go_ret | go_end0
      exact HP.out _ HK5.out
  have hf := hf.resolve_left hlow
  have hf0 := (isN_iff.1 hf).1
  have hf1 := (isN_iff.1 hf).2
  have hf2 : 2 ≤ f := Classical.byContradiction fun h => hlow (by unfold getN; rw [if_neg (by omega)])
  obtain ⟨i, rfl⟩ : ∃ i : Nat, f = (i : Int) + 2 := ⟨(f - 2).toNat, by omega⟩
  have hi : i < st.n := by omega
  obtain ⟨⟨ui, lo, hi'⟩, hL⟩ : ∃ p, st.L i = p := ⟨_, rfl⟩
  obtain ⟨p1, p2, p3, p4, p5, p6, p7, p8, p9⟩ := g.node i hi
  rw [hL] at p1 p2 p3 p4 p5 p6 p7 p8 p9
  simp only [] at p1 p2 p3 p4 p5 p6 p7 p8 p9
  obtain ⟨u, rfl⟩ := Int.eq_ofNat_of_zero_le p1
  have hget : getN st.L st.n ((i : Int) + 2) = some ((u : Int), lo, hi') := by unfold getN; rw [if_pos ⟨by omega, hf1⟩, show ((i : Int) + 2 - 2).toNat = i from by omega, hL]
  have hvar : varN V st.L st.n ((i : Int) + 2) = u := by rw [var_node hi, hL]
  rw [hget] at HMD0
  have HMD : Hid (Calls Try.prog 56 #[.pointer (some ⟨db, 0, none⟩), .int .i64 ((i : Int) + 2)] W fun e W2 => e = .returned (.tuple #[.agg #[.int .i64 (u : Int), .int .i64 lo, .int .i64 hi'], .bool true]) ∧ Below W.heap.size W W2) := HMD0.out
  have HC := Lib.hid (cost_step p2 p7 p8)
  have HGET := Lib.hid hget
  have HVAR := Lib.hid hvar
  have HB := Lib.hid (And.intro hN (And.intro hf0 (And.intro hf1 (And.intro hfm (And.intro p2 (And.intro p3 (And.intro p4 (And.intro p5 p6))))))))
  have HPU : Hid ((u : Int) < V) := p2
  clear HMD0 hget hvar hL p2 p3 p4 p5 p6 p7 p8 p9 hf hf1 hN hfm hlow hf0 hf2
  go_enter Try.func79, Try.ntmps79
  go_upto_region 1 with (go_at_call 56; refine HMD.out.mono ?_; rintro e wA ⟨rfl, hbA⟩)
  have hkA : Keeps (fun _ => False) W wA := Keeps.of_below hbA (Nat.le_refl _)
  have hal := (MapKept.heap_alloc wA (.cells #[.int .i64 (u : Int), .int .i64 lo, .int .i64 hi'] 82)).1
  have hk5 : Keeps (fun _ => False) W (wA.alloc (.cells #[.int .i64 (u : Int), .int .i64 lo, .int .i64 hi'] 82)) := hkA.alloc _
  have HXB : Hid (wA.heap.size ≠ mb) := by
    have hs := hkA.size
    have := HM.out.mp.imap.lt
    show wA.heap.size ≠ mb
    omega
  have HAL := Lib.hid hal
  have d0 := cell_of_heap hal 0
  have d1 := cell_of_heap hal 1
  have d2 := cell_of_heap hal 2
  simp only [List.getElem?_toArray, List.getElem?_cons_zero, List.getElem?_cons_succ] at d0 d1 d2
  have M5 := Lib.hid (HM.out.quiet hk5)
  have hlook := HLK.out _ hk5
  have HK5 := Lib.hid hk5
  clear hbA HMD c2 hkA hk5 hal HLK
  generalize hw5 : wA.alloc (.cells #[.int .i64 (u : Int), .int .i64 lo, .int .i64 hi'] 82) = w5 at *
  clear hw5
  have c1 := M5.out.c1
  by_cases hmem : ((i : Int) + 2) ∈ Lk
  · have h1 : (K ((i : Int) + 2)).isSome = true := by rw [HIN.out]; exact decide_eq_true hmem
    rw [h1] at hlook
    have HP : Hid (NdPost W db mb V B st calls Fp N Lk dx kx wx ((i : Int) + 2) (.returned (.tuple #[])) w5) := ⟨N, K, Lk, rfl, M5, HK5.out.mono (fun _ _ x => x.elim), .stop Lk _ (.inl hmem), by show N ≤ _; omega⟩
    generalize (K ((i : Int) + 2)).getD 0 = va at *
    clear IH HM h1 hmem HIN
    go_wp2_with fail
    first | go_ret | go_end0
    exact HP.out
  have h1 : (K ((i : Int) + 2)).isSome = false := by rw [HIN.out]; exact decide_eq_false hmem
  rw [h1] at hlook
  generalize (K ((i : Int) + 2)).getD 0 = va at *
  obtain ⟨hN, hf0, hf1, hfm, p2, p3, p4, p5, p6⟩ := HB.out
  rw [HVAR.out] at hN
  obtain ⟨w6, hrun, hmap, hk6⟩ := M5.out.mp.update (by have := HC.out; unfold maxLen; omega) (x := (i : Int) + 2) (y := (u : Int)) (by omega) (by have := HN0.out; omega) (by omega) (by omega) hmem
  have hM6 := M5.out.move hmap hk6 (fun x v hx => by
    unfold setK at hx
    by_cases e : x = (i : Int) + 2
    · rw [if_pos e] at hx
      obtain rfl := Option.some.inj hx
      exact ⟨lo, hi', by rw [e]; exact HGET.out⟩
    · rw [if_neg e] at hx
      exact M5.out.kv x v hx)
  have HK6 : Hid (Keeps (fun k => k = mb) W w6) := (HK5.out.mono (fun _ _ x => x.elim)).trans_new hk6 (fun _ _ e => e)
  have H6 : Hid (∀ W', Keeps (fun k => k = mb) w6 W' → W'.cell? ⟨wA.heap.size, 1, none⟩ = some (.int .i64 lo) ∧ W'.cell? ⟨wA.heap.size, 2, none⟩ = some (.int .i64 hi')) := fun W' hk => by
    have kk := hk6.trans hk
    exact ⟨(kk.cell (p := ⟨wA.heap.size, 1, none⟩) (lt_of_heap HAL.out) HXB.out).trans d1, (kk.cell (p := ⟨wA.heap.size, 2, none⟩) (lt_of_heap HAL.out) HXB.out).trans d2⟩
  have hcst := HC.out
  have HC1 := Lib.hid (IH.out lo.toNat (by omega) lo rfl w6 (N + 1) _ _ hM6 (.inr (isN_iff.2 ⟨p3, by omega⟩)) (by omega) (by have := HN0.out; omega) (by omega))
  have HC2 : Hid (∀ W' N' K' Lk', NdMem W' db mb V B st calls Fp N' K' Lk' dx kx wx → N' ≤ N + 1 + costN V (varN V st.L st.n lo) → Calls Try.prog 79 #[.int .i64 hi', .pointer (some ⟨dx, 0, none⟩), .pointer (some ⟨kx, 0, none⟩), .pointer (some ⟨wx, 0, none⟩)] W' (NdPost W' db mb V B st calls Fp N' Lk' dx kx wx hi')) := fun W' N' K' Lk' hm hn' => IH.out hi'.toNat (by omega) hi' rfl W' N' K' Lk' hm (.inr (isN_iff.2 ⟨p5, by omega⟩)) (by omega) (by have := HN0.out; omega) (by omega)
  have HMEM := Lib.hid hmem
  have HCS := Lib.hid (And.intro hcst hN)
  have c3 := hM6.c3
  unfold fnN at c3
  have HM6 := Lib.hid hM6
  clear IH HM hk6 hmap hM6 hmem h1 hN hf0 hf1 hfm p2 p3 p4 p5 p6 hcst HIN HB HPU
  go_upto_region 4 with fail
  obtain ⟨e1, e2⟩ := H6.out w6 (Keeps.refl _ _)
  clear hrun c1 hlook d0 d1 d2
  go_wp2_with fail
  refine HC1.out.mono ?_
  rintro e w7 ⟨N1, K1, L1, rfl, M7, K7, D7, C7⟩
  obtain ⟨_, e2'⟩ := H6.out w7 K7.out
  have c3' := M7.out.c3
  unfold fnN at c3'
  have HC3 := Lib.hid (HC2.out w7 N1 K1 L1 M7.out C7.out)
  clear HC1 HC2 e1 e2 c3 H6
  go_wp2_with fail
  refine HC3.out.mono ?_
  rintro e w8 ⟨N2, K2, L2, rfl, M8, K8, D8, C8⟩
  have HP : Hid (NdPost W db mb V B st calls Fp N Lk dx kx wx ((i : Int) + 2) (.returned (.tuple #[])) w8) :=
    ⟨N2, K2, L2, rfl, M8, (HK6.out.trans K7.out).trans K8.out, .step _ _ _ _ _ _ _ HMEM.out HGET.out D7.out D8.out, by
      show N2 ≤ N + costN V (varN V st.L st.n ((i : Int) + 2))
      rw [HVAR.out]
      have h1 := C7.out
      have h2 := C8.out
      have h3 := HCS.out.1
      omega⟩
  clear HC3 M7 M8 K7 K8 D7 D8 C7 C8
  go_wp2_with fail
  first | go_ret | go_end0
  exact HP.out
end
end Go.Proofs.Ytfakjhcpaiaekaa
