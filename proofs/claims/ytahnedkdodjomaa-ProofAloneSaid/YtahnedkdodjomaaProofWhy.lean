/-
  Why: the steps that are needed.
-/
import Derived.Test.YtahnedkdodjomaaProofBegin
set_option linter.unusedVariables false
set_option linter.unusedSimpArgs false
set_option linter.unnecessarySimpa false
namespace Go.Proofs.Ytahnedkdodjomaa
open Go.ChangeShapes Go.WideShapes Go.ChangeAt Go.RowKit Go.Deep SetPlain
/-- The steps that are marked, of the first j. -/
def selTo (l : List Sp) (V : Nat → Bool) : Nat → List Sp
  | 0 => []
  | j + 1 => match l[j]? with
    | none => selTo l V j
    | some s => if V j = true then selTo l V j ++ [s] else selTo l V j
theorem selTo_some {l : List Sp} {V : Nat → Bool} {j : Nat} {s : Sp} (h : l[j]? = some s) : selTo l V (j + 1) = if V j = true then selTo l V j ++ [s] else selTo l V j := by
  show (match l[j]? with | none => selTo l V j | some s => if V j = true then selTo l V j ++ [s] else selTo l V j) = _
  rw [h]
theorem selTo_len (l : List Sp) (V : Nat → Bool) : ∀ j, (selTo l V j).length ≤ j
  | 0 => Nat.le_refl _
  | j + 1 => by
    have ih := selTo_len l V j
    show (match l[j]? with | none => selTo l V j | some s => if V j = true then selTo l V j ++ [s] else selTo l V j).length ≤ _
    split
    · omega
    · split
      · rw [List.length_append]; exact Nat.succ_le_succ ih
      · omega
theorem madeFalse (N : Nat) : madeCells (Value.bool false).cells (N * 1) = boolRow (fun _ => false) N := by
  apply Array.ext_getElem?
  intro i
  unfold boolRow
  rcases Nat.lt_or_ge i N with h | h
  · rw [fnRow_get _ _ _ h]
    have := madeCells_get #[Value.bool false] N i 0 (.bool false) h rfl
    show (madeCells #[Value.bool false] (N * 1))[i]? = _
    simpa using this
  · rw [Array.getElem?_eq_none (by simpa [size_madeCells] using h), Array.getElem?_eq_none (by rw [fnRow_size]; exact h)]
/-- What Why says: the marks of all that the fact needs. -/
structure WhyAns (P K : Nat) (rs : List Rl) (a b : Int) (ok : Bool) (out : List Sp) : Prop where
  ex : ∃ l, Grow P K rs [] l ∧ (∀ s, mayB P K rs l s = false) ∧ ok = (atF l a b).isSome ∧ (ok = false → out = []) ∧
    ∀ i, atF l a b = some i → ∃ V, NeedRel (Dep P K rs l) i (fun _ => false) V ∧ out = selTo l V l.length
def WhyPost (P K : Nat) (rs : List Rl) (a b : Int) (W : World) (e : Ending) (W' : World) : Prop :=
  ∃ v ok out, e = .returned (.tuple #[v, .bool ok]) ∧ Below W.heap.size W W' ∧ Hid (WhyAns P K rs a b ok out) ∧ Hid (TailRow W' 30 4 v out.length (spCells out))
set_option maxRecDepth 100000
set_option maxHeartbeats 3200000
theorem why_spec {W : World} {P K : Nat} {ao : Option Addr} {n cap : Nat} {rs : List Rl} (hR : RuleRow W ao rs) (hrs : rs.length = n) (hcap : n ≤ cap) (hP : P ≤ 64) (hK : K ≤ 64) (hn : n < 1000000000) {a b : Int} (ha : I64 a) (hb : I64 b) :
    Calls Try.prog 12 #[.int .i64 P, .int .i64 K, .slice ao n cap, .int .i64 a, .int .i64 b] W (WhyPost P K rs a b W) := by
  have HB := Lib.hid (begin_spec hR hrs hcap hP hK)
  clear hR
  have hkey := fact_key ha hb
  obtain ⟨i0, hi0, hz0, hz1, hz2⟩ := info_parts boolInfo
  go_enter Try.func12, Try.ntmps12
  go_upto_region 1 with fail
  go_wp2_with (go_at_call 19; refine HB.out.mono ?_; rintro e wA ⟨kb, mb, rfl, HKA⟩)
  have HALL := Lib.hid (all_spec (HKA.out.quiet ((Keeps.refl _ _).alloc (.cells #[.pointer (some ⟨kb, 0, none⟩)] 48))) hn)
  have HBX : Hid (∀ vs' wB, KnTo (wA.alloc (.cells #[.pointer (some ⟨kb, 0, none⟩)] 48)) wB kb mb (.slice none 0 0) vs' → Bx wB kb mb vs' wA.heap.size (.cells #[.pointer (some ⟨kb, 0, none⟩)] 48)) := fun vs' wB ht => (HKA.out.new rfl _).to ht
  clear HB HKA
  refine HALL.out.mono ?_
  rintro e wB ⟨vs, l, rfl, HK, HT, HNO⟩
  have HBK := Lib.hid (HBX.out _ _ HT.out)
  clear HALL HBX
  obtain ⟨_, _, _, k3, k4⟩ := HK.out.mem.cells
  have hx := HBK.out.at_
  have x0 := cell_of_heap hx 0
  simp only [List.getElem?_toArray, List.getElem?_cons_zero] at x0
  obtain ⟨so, sc, rfl, hsc, hmx, _, _⟩ := HK.out.mem.row.form
  obtain ⟨D, hown, hD⟩ := HK.out.mem.map
  obtain ⟨hhas, hat0⟩ := hD a b ha hb
  have hlen := HK.out.good.big HK.out.hP HK.out.hK
  clear hD hx
  go_wp2_with (first | (at_lookup; refine wpList_lookup_own_ok_int _ rfl _ _ 53 rfl 57 3 .i64 fact_keyed Try.underlying53 Try.underlying3 (by kernel_rfl) mb l.length D rfl hown _ _ rfl hkey ?_; intro c hat hwc; rw [hhas]; rw [hat0] at hat; simp only [DataW.lit.injEq, Lit.int.injEq, true_and] at hat; subst hat; clear hown hhas hat0 hwc; cases hf : atF l a b) | (at_make; refine wpList_make_full _ rfl _ _ 58 rfl wB.heap.size 4 i0 _ 1 Try.underlying58 hi0 hz0 hz1 .i64 .i64 _ _ l.length rfl rfl rfl rfl (by rw [hz2]; omega) (by unfold maxLen; omega) (Nat.le_refl _) ?_))
  · have HP : Hid (WhyPost P K rs a b W (.returned (.tuple #[.slice none 0 0, .bool false])) wB) := ⟨_, _, [], rfl, HK.out.base, ⟨l, HK.out.good, HNO.out, by rw [hf]; rfl, fun _ => rfl, fun i h => by rw [hf] at h; cases h⟩, TailRow.nil _ _ _⟩
    refine bodyPost_ret (v := .tuple #[.slice none 0 0, .bool false]) (by simp [results, Try.results12, go_sem]) rfl HP.out
  · intro w1 hown hgrow
    obtain ⟨i, hi⟩ : ∃ i, atF l a b = some i := ⟨_, hf⟩
    have hN : atN l a b = i := by unfold atN; rw [hi]; rfl
    rw [hN]
    have k1 : Keeps (fun _ => False) wB w1 := (keeps_grown hgrow).mono (fun _ _ h => by cases h)
    have hmade : w1.heap[wB.heap.size]? = some (.cells (boolRow (fun _ => false) l.length) 4 (0, 0)) := by
      have e := block_of_made (z := #[Value.bool false]) (size := 1) (n := l.length) (by rw [Nat.mul_one]; exact hown)
      have e2 := madeFalse l.length
      rw [e]
      exact congrArg (fun c => some (Obj.cells c _ _)) e2
    have y0 := (k1.cell (p := ⟨wA.heap.size, 0, none⟩) (lt_of_cell x0) (fun x => x)).trans x0
    have y3 := (k1.cell (p := ⟨kb, 3, none⟩) (lt_of_cell k3) (fun x => x)).trans k3
    have y4 := (k1.cell (p := ⟨kb, 4, none⟩) (lt_of_cell k4) (fun x => x)).trans k4
    have HK1 := Lib.hid k1
    have HMD := Lib.hid hmade
    have lnb := lt_of_heap hmade
    have lkx := lt_of_cell x0
    have lky := lt_of_cell y0
    clear hf hN hown hgrow k1 hmade k3 k4 x0
    have z0 : ((w1.alloc (.cells #[.slice (some ⟨wB.heap.size, 0, none⟩) l.length l.length] 58)).alloc (.cells #[.nilFunc] 59)).heap[w1.heap.size + 1]? = some (.cells #[.nilFunc] 59 (0, 0)) := by
      have := (MapKept.heap_alloc (w1.alloc (.cells #[.slice (some ⟨wB.heap.size, 0, none⟩) l.length l.length] 58)) (.cells #[.nilFunc] 59)).1
      rw [show (w1.alloc (.cells #[.slice (some ⟨wB.heap.size, 0, none⟩) l.length l.length] 58)).heap.size = w1.heap.size + 1 from by simp] at this
      exact this
    have z1 := cell_of_heap z0 0
    simp only [List.getElem?_toArray, List.getElem?_cons_zero] at z1
    have z2 := free_of_heap z0 0
    have z3 := heap_set z0 0 (fnV w1.heap.size wA.heap.size (w1.heap.size + 1))
    unfold fnV at z3
    have z4 := cell_of_heap z3 0
    simp only [List.setIfInBounds_toArray, List.set_cons_zero, List.getElem?_toArray, List.getElem?_cons_zero] at z4
    have hst : (store ⟨w1.heap.size + 1, 0, none⟩ (.func (.func 24) #[] #[.pointer (some ⟨w1.heap.size, 0, none⟩), .pointer (some ⟨wA.heap.size, 0, none⟩), .pointer (some ⟨w1.heap.size + 1, 0, none⟩)])).run Try.prog ((w1.alloc (.cells #[.slice (some ⟨wB.heap.size, 0, none⟩) l.length l.length] 58)).alloc (.cells #[.nilFunc] 59)) = .ok () (((w1.alloc (.cells #[.slice (some ⟨wB.heap.size, 0, none⟩) l.length l.length] 58)).alloc (.cells #[.nilFunc] 59)).setCell ⟨w1.heap.size + 1, 0, none⟩ (.func (.func 24) #[] #[.pointer (some ⟨w1.heap.size, 0, none⟩), .pointer (some ⟨wA.heap.size, 0, none⟩), .pointer (some ⟨w1.heap.size + 1, 0, none⟩)])) := by
      rw [run_store _ _ _ _ _ rfl]
      simp only [stored, z1, z2]
      rfl
    clear z3 z0
    go_wp2_with fail
    obtain ⟨s0, hs0⟩ : ∃ s, l[i]? = some s := ⟨_, List.getElem?_eq_getElem (atF_lt hi)⟩
    obtain ⟨g, o, sc', he, _⟩ := HK.out.mem.step_cells hs0
    simp only [Value.slice.injEq, true_and] at he
    obtain ⟨rfl, rfl⟩ := he
    have hkW : Keeps (fun _ => False) w1 ((w1.alloc (.cells #[.slice (some ⟨wB.heap.size, 0, none⟩) l.length l.length] 58)).alloc (.cells #[fnV w1.heap.size wA.heap.size (w1.heap.size + 1)] 59)) := ((Keeps.refl _ _).alloc _).alloc _
    have hNB : NdB W.heap.size W ((w1.alloc (.cells #[.slice (some ⟨wB.heap.size, 0, none⟩) l.length l.length] 58)).alloc (.cells #[fnV w1.heap.size wA.heap.size (w1.heap.size + 1)] 59)) kb P K ao n cap mb (.slice (some ⟨g, o, none⟩) l.length sc) l rs w1.heap.size wA.heap.size (w1.heap.size + 1) wB.heap.size := by
      refine ⟨HK.out.quiet (HK1.out.trans hkW), ?_, (hkW.cell (p := ⟨wA.heap.size, 0, none⟩) (lt_of_cell y0) (fun x => x)).trans y0, ?_, HK.out.base.size, fun hx => Nat.lt_irrefl _ (HK.out.lt _ hx), by omega, by omega, by omega⟩
      · simp
      · have := (MapKept.heap_alloc (w1.alloc (.cells #[.slice (some ⟨wB.heap.size, 0, none⟩) l.length l.length] 58)) (.cells #[fnV w1.heap.size wA.heap.size (w1.heap.size + 1)] 59)).1
        rw [show (w1.alloc (.cells #[.slice (some ⟨wB.heap.size, 0, none⟩) l.length l.length] 58)).heap.size = w1.heap.size + 1 from by simp] at this
        rw [cell_of_heap this]
        rfl
    have hNS : NdS ((w1.alloc (.cells #[.slice (some ⟨wB.heap.size, 0, none⟩) l.length l.length] 58)).alloc (.cells #[fnV w1.heap.size wA.heap.size (w1.heap.size + 1)] 59)) wB.heap.size l.length (fun _ => false) ((w1.alloc (.cells #[.slice (some ⟨wB.heap.size, 0, none⟩) l.length l.length] 58)).alloc (.cells #[fnV w1.heap.size wA.heap.size (w1.heap.size + 1)] 59)) := ⟨Keeps.refl _ _, (hkW.block _ lnb (fun x => x)).trans HMD.out⟩
    have HNB := Lib.hid hNB
    have HNS := Lib.hid hNS
    have HNEED := Lib.hid (need_spec hNB i (atF_lt hi) _ _ hNS)
    clear hNB hNS hkW z1 z2 z4 hst
    unfold fnV at HNEED HNB HNS
    refine HNEED.out.mono ?_
    rintro e wC ⟨rfl, V, hw, hn⟩
    have hSC : NdS _ wB.heap.size l.length V wC := ⟨HNS.out.keeps.trans hw.out.1, hw.out.2⟩
    have HSC := Lib.hid hSC
    obtain ⟨d1, d2, _⟩ := hSC.cells HNB.out
    obtain ⟨_, _, _, k3, k4⟩ := (hSC.kn HNB.out).mem.cells
    have HV := Lib.hid hn.out
    obtain ⟨i1, hi1, hy0, hy1, hy2⟩ := info_parts spInfo
    clear HNEED hw hn hSC y0 y3 y4 HNS
    go_wp2_with fail
    have HFX : Hid (∀ wy, Below wC.heap.size wC wy → wy.cell? ⟨w1.heap.size, 0, none⟩ = some (.slice (some ⟨wB.heap.size, 0, none⟩) l.length l.length) ∧ (∀ j, j < l.length → wy.cell? ⟨wB.heap.size, j, none⟩ = some (.bool (V j))) ∧
        (∀ (j : Nat) (s : Sp), l[j]? = some s → wy.cell? ⟨g, o + j * 4, none⟩ = some (.int .i64 s.rule) ∧ wy.cell? ⟨g, o + j * 4 + 1, none⟩ = some (.int .i64 s.role) ∧ wy.cell? ⟨g, o + j * 4 + 2, none⟩ = some (.int .i64 s.who) ∧ wy.cell? ⟨g, o + j * 4 + 3, none⟩ = some (.int .i64 s.mid))) := fun wy hb => by
      have hk := Keeps.of_below (S := fun _ => False) hb (Nat.le_refl _)
      have hs := HSC.out.quiet hk
      refine ⟨(hs.cells HNB.out).1, fun j hj => hs.cell hj, fun j s hj => ?_⟩
      obtain ⟨g', o', sc', he, _, q0, q1, q2, q3⟩ := (hs.kn HNB.out).mem.step_cells hj
      simp only [Value.slice.injEq, Option.some.injEq, Addr.mk.injEq, true_and, and_true] at he
      obtain ⟨⟨rfl, rfl⟩, rfl⟩ := he
      exact ⟨q0, q1, q2, q3⟩
    have HEND : Hid (∀ wy v, Below wC.heap.size wC wy → TailRow wy 30 4 v (selTo l V l.length).length (spCells (selTo l V l.length)) → WhyPost P K rs a b W (.returned (.tuple #[v, .bool true])) wy) := fun wy v hb ht => by
      refine ⟨v, true, selTo l V l.length, rfl, (HSC.out.kn HNB.out).base.trans (hb.mono (HSC.out.kn HNB.out).base.size), ⟨l, HK.out.good, HNO.out, by rw [hi]; rfl, (fun h => by cases h), fun i' h => ?_⟩, ht⟩
      rw [hi] at h; cases h
      exact ⟨V, HV.out, rfl⟩
    clear d1 d2 k3 k4 HSC HNB HV
    go_loopg [17, 54] l.length (fun g s t wy => ∃ (j : Nat), j ≤ l.length ∧ g = l.length - j ∧ t = .int .i64 j ∧ Hid (Below wC.heap.size wC wy) ∧ Hid (TailRow wy 30 4 s (selTo l V j).length (spCells (selTo l V j))) ∧ Hid (∀ x, s.ownBlock = some x → wC.heap.size ≤ x))
    case atStart => exact ⟨0, Nat.zero_le _, rfl, rfl, Below.refl _ _, TailRow.nil _ _ _, fun x h => by cases h⟩
    case round =>
      obtain ⟨j, hj, rfl, rfl, HBL, HTR, HOW⟩ := hrel
      by_cases hlt : j < l.length
      · have hjI : (j : Int) < (l.length : Int) := by omega
        obtain ⟨s, hs⟩ : ∃ s, l[j]? = some s := ⟨_, List.getElem?_eq_getElem hlt⟩
        obtain ⟨e1, e2, e3⟩ := HFX.out _ HBL.out
        have e2 := e2 j hlt
        obtain ⟨q0, q1, q2, q3⟩ := e3 j s hs
        have HSEL := Lib.hid (selTo_some (V := V) hs)
        have hsl := selTo_len l V j
        have hcs : [Value.int .i64 s.rule, .int .i64 s.role, .int .i64 s.who, .int .i64 s.mid] = spCells [s] := by simp [spCells, Sp.cells]
        have HCS := Lib.hid hcs
        clear hcs
        obtain ⟨rule, role, who, mid⟩ := s
        simp only [] at q0 q1 q2 q3 HCS
        have l1 := lt_of_cell e1
        have l2 := lt_of_cell e2
        clear e3 hs
        cases hv : V j with
        | false =>
          rw [hv] at e2 HSEL
          have HSEL2 : Hid (selTo l V (j + 1) = selTo l V j) := by rw [HSEL.out]; rfl
          clear HSEL
          go_wp2_with fail
          go_roundg (l.length - (j + 1))
          case measure => omega
          case rel =>
            have hk : Keeps (fun _ => False) wr (wr.alloc (.cells #[.int .i64 rule, .int .i64 role, .int .i64 who, .int .i64 mid] 30)) := (Keeps.refl _ _).alloc _
            exact ⟨j + 1, by omega, rfl, by go_num, HBL.out.trans (hk.below HBL.out.size (fun _ _ x => x)), by rw [HSEL2.out]; exact HTR.out.keeps hk (fun _ _ x => x), HOW.out⟩
        | true =>
          rw [hv] at e2 HSEL
          have HSEL2 : Hid (selTo l V (j + 1) = selTo l V j ++ [⟨rule, role, who, mid⟩]) := by rw [HSEL.out]; rfl
          clear HSEL
          have HTX : Hid (TailRow ((wr.alloc (.cells #[.int .i64 rule, .int .i64 role, .int .i64 who, .int .i64 mid] 30)).alloc (.cells #[.int .i64 rule, .int .i64 role, .int .i64 who, .int .i64 mid] 30)) 30 4 u17 (selTo l V j).length (spCells (selTo l V j))) := HTR.out.keeps (S := fun _ => False) (((Keeps.refl _ _).alloc _).alloc _) (fun _ _ x => x)
          have HCN : Hid (∀ (q : Nat) (u : Value), [Value.int .i64 rule, .int .i64 role, .int .i64 who, .int .i64 mid][q]? = some u → ((wr.alloc (.cells #[.int .i64 rule, .int .i64 role, .int .i64 who, .int .i64 mid] 30)).alloc (.cells #[.int .i64 rule, .int .i64 role, .int .i64 who, .int .i64 mid] 30)).cell? ((⟨wr.heap.size + 1, 0, none⟩ : Addr).add q) = some u) := by
            have := cells_new (wr.alloc (.cells #[.int .i64 rule, .int .i64 role, .int .i64 who, .int .i64 mid] 30)) [.int .i64 rule, .int .i64 role, .int .i64 who, .int .i64 mid] 30
            rw [show (wr.alloc (.cells #[.int .i64 rule, .int .i64 role, .int .i64 who, .int .i64 mid] 30)).heap.size = wr.heap.size + 1 from by simp] at this
            exact this
          have HFIN : Hid (∀ ao' cap' w', TailRow w' 30 4 (.slice ao' ((selTo l V j).length + 1) cap') ((selTo l V j).length + 1) (spCells (selTo l V j) ++ [Value.int .i64 rule, .int .i64 role, .int .i64 who, .int .i64 mid]) → ((wr.alloc (.cells #[.int .i64 rule, .int .i64 role, .int .i64 who, .int .i64 mid] 30)).alloc (.cells #[.int .i64 rule, .int .i64 role, .int .i64 who, .int .i64 mid] 30)).grownBy w' u17.ownBlock →
              (∀ k, (Value.slice ao' ((selTo l V j).length + 1) cap').ownBlock = some k → u17.ownBlock = some k ∨ wr.heap.size + 1 + 1 ≤ k) →
              Below wC.heap.size wC w' ∧ TailRow w' 30 4 (.slice ao' ((selTo l V j).length + 1) cap') (selTo l V (j + 1)).length (spCells (selTo l V (j + 1))) ∧ (∀ x, (Value.slice ao' ((selTo l V j).length + 1) cap').ownBlock = some x → wC.heap.size ≤ x)) := fun ao' cap' w' h1 h2 h3 => by
            have hk2 : Keeps (fun x => u17.ownBlock = some x) wr ((wr.alloc (.cells #[.int .i64 rule, .int .i64 role, .int .i64 who, .int .i64 mid] 30)).alloc (.cells #[.int .i64 rule, .int .i64 role, .int .i64 who, .int .i64 mid] 30)) := ((Keeps.refl _ _).alloc _).alloc _
            have hk3 := hk2.trans_new (keeps_grown h2) (fun _ _ h => h)
            refine ⟨HBL.out.trans (hk3.below HBL.out.size (fun x hx h => by have := HOW.out x h; omega)), ?_, fun x hx => ?_⟩
            · rw [HSEL2.out, spCells_append, List.length_append, ← HCS.out]
              exact h1
            · rcases h3 x hx with h | h
              · exact HOW.out x h
              · have := HBL.out.size
                omega
          clear HSEL2 HTR HOW HBL HCS
          go_upto_region 15 with fail
          go_wp2_with (at_builtin; refine wpList_append_tail _ rfl _ _ 24 rfl 30 i1 _ 4 32 Try.underlying24 hi1 hy0 hy1 hy2 rfl (by decide) _ (selTo l V j).length (spCells (selTo l V j)) rfl HTX.out ⟨wr.heap.size + 1, 0, none⟩ 1 1 [.int .i64 rule, .int .i64 role, .int .i64 who, .int .i64 mid] rfl rfl HCN.out (by intro u hu; simp only [List.mem_cons, List.not_mem_nil, or_false] at hu; rcases hu with rfl | rfl | rfl | rfl <;> rfl) (by omega) (by unfold maxLen; omega) (by omega) ?_)
          intro ao' cap' w' hown hgrow hfp
          obtain ⟨f1, f2, f3⟩ := HFIN.out _ _ _ hown hgrow hfp
          have F1 := Lib.hid f1
          have F2 := Lib.hid f2
          have F3 := Lib.hid f3
          clear hown hgrow hfp f1 f2 f3 HFIN HTX HCN
          go_wp2_with fail
          go_roundg (l.length - (j + 1))
          case measure => omega
          case rel => exact ⟨j + 1, by omega, rfl, by go_num, F1.out, F2.out, F3.out⟩
      · have hjE : j = l.length := by omega
        have hjI : ¬ (j : Int) < (l.length : Int) := by omega
        rw [hjE] at HTR
        have HP := Lib.hid (HEND.out _ _ HBL.out HTR.out)
        go_wp2_with fail
        refine bodyPost_ret (v := .tuple #[u17, .bool true]) (by simp [results, Try.results12, go_sem]) rfl HP.out
end Go.Proofs.Ytahnedkdodjomaa
