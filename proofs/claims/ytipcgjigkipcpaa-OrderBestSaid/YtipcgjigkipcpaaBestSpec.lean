/-
  The best order that is reached by changing neighbours: the program's walk.
-/
import Derived.Test.YtipcgjigkipcpaaBestWalk
set_option linter.unusedVariables false
set_option linter.unusedSimpArgs false
set_option linter.unnecessarySimpa false
namespace Go.Proofs.Ytipcgjigkipcpaa
open Go.ChangeShapes Go.WideShapes Go.ChangeAt Go.RowKit Go.Deep NodePlain
section
variable {w W : World} {k : Nat} {s : PlS} {u c : Nat} {d lb : Nat} {st : St} {kc : Nat} {calls : Int} {F : Nat → Prop}
/-- Where the program stands: the maker, f, the best row. -/
structure BsS (w W : World) (k : Nat) (s : PlS) (u c : Nat) (d lb : Nat) (f : Int) (E : (Nat → Bool) → Bool) (v : Value) (l : List Int) (st : St) (kc : Nat) (calls : Int) (F : Nat → Prop) : Prop where
  m : MkS w W k s u c d lb st kc calls F
  f : Num st f E
  r : RowF W F v l
theorem BsS.quiet {W W' : World} {f : Int} {E : (Nat → Bool) → Bool} {v : Value} {l : List Int} (h : BsS w W k s u c d lb f E v l st kc calls F) (hk : Keeps (fun _ => False) W W') : BsS w W' k s u c d lb f E v l st kc calls F := ⟨h.m.quiet hk, h.f, h.r.quiet hk⟩
/-- The same, of some state that goes on from one. -/
def BsE (w W : World) (k : Nat) (s : PlS) (u c : Nat) (d lb : Nat) (f : Int) (E : (Nat → Bool) → Bool) (v : Value) (l : List Int) (st : St) : Prop := ∃ st' kc' calls' F', BsS w W k s u c d lb f E v l st' kc' calls' F' ∧ Ext st.L st.n st'.L st'.n
/-- The same, another row beside it. -/
def BsN (w W : World) (k : Nat) (s : PlS) (u c : Nat) (d lb : Nat) (f : Int) (E : (Nat → Bool) → Bool) (v : Value) (l : List Int) (v2 : Value) (l2 : List Int) (st : St) : Prop := ∃ st' kc' calls' F', BsS w W k s u c d lb f E v l st' kc' calls' F' ∧ RowF W F' v2 l2 ∧ Ext st.L st.n st'.L st'.n
theorem irow_list {b m : Nat} {G : Nat → Int} (h : IRow W b m G) : W.heap[b]? = some (.cells ((List.range m).map fun j => Value.int .i64 (G j)).toArray 3 (0, 0)) := h
theorem list_row {b : Nat} {l : List Int} (h : W.heap[b]? = some (.cells (l.map (Value.int .i64)).toArray 3 (0, 0))) : ReadsI W (.slice (some ⟨b, 0, none⟩) l.length l.length) l := by
  refine ⟨_, l.length, rfl, Nat.le_refl _, fun _ => ⟨b, 0, rfl, lt_of_heap h, fun j x hj => ?_⟩⟩
  rw [Nat.zero_add, cell_of_heap h]
  simp [hj]
theorem MkS.wider (h : MkS w W k s u c d lb st kc calls F) {u' c' : Nat} (hu : u ≤ u') (hc : c ≤ c') : MkS w W k s u' c' d lb st kc calls F := by
  have h1 := h.n
  have h2 := h.kc
  have h3 := h.c1
  exact ⟨h.bd, h.fine, h.ext, by omega, by omega, h.c0, by omega, h.nl, h.lt, h.fw, h.l, h.kp, h.lz⟩
/-- A row of which all was written over. -/
theorem splice_all {α : Type} (L cs : List α) (h : cs.length = L.length) : splice L 0 cs = cs := by
  unfold splice
  rw [List.take_zero, List.nil_append, Nat.zero_add, h, List.drop_length, List.append_nil]
theorem below_keeps {W W' : World} (h : Below W.heap.size W W') : Keeps (fun _ => False) W W' := ⟨h.os, h.tape, h.output, h.size, fun k hk _ => h.block k hk⟩
theorem best_len (σ : List Int → Nat) {k : Nat} {b : List Int × Nat} (hb : b.1 = idL k) (hk : k ≤ 61) (r : Nat) : (bestB σ k b r).1.length = k := by
  rcases Nat.eq_zero_or_pos k with rfl | h
  · have e : ∀ r, bestB σ 0 b r = b := fun r => by
      induction r with
      | zero => rfl
      | succ r ih => show stepB σ 0 (bestB σ 0 b r) = b; rw [ih]; rfl
    rw [e, hb]; rfl
  · have := ordB_iff.1 (best_ord σ h (b := b) (by rw [hb]; exact idL_ord hk) r)
    have := this.2.2.1
    omega
set_option maxRecDepth 100000
set_option maxHeartbeats 6400000
theorem best_spec (h : MkS w W k s u c d lb st kc calls F) (hk6 : k ≤ 6) (hu : u ≤ 200000) (hc : c ≤ 5000) {f : Int} {E : (Nat → Bool) → Bool} (hf : Num st f E) (hE : ∀ β, byOrd E (idL k) β = E β) {σ : List Int → Nat} (hσ : ∀ l s, SzS k (byOrd E l) s → σ l = s) (t : Nat) (ht : t ≤ 4) :
    Calls Try.prog 47 #[.pointer (some ⟨d, 0, none⟩), .int .i64 f, .int .i64 t] W fun e W' => ∃ v, e = .returned (.tuple #[v, .int .i64 ((bestB σ k (idL k, σ (idL k)) t).2 : Nat)]) ∧
      BsE w W' k s (u + t * 20160) (c + t * 630) d lb f E v (bestB σ k (idL k, σ (idL k)) t).1 st := by
  obtain ⟨i0, hi0, hz0, hz1, hz2⟩ := info_parts iinfo
  have hid := idL_ord (k := k) (by omega)
  have hn := h.n
  have hfI := isN_iff.1 hf.is
  have HIS : Hid (Calls Try.prog 63 #[.pointer (some ⟨d, 0, none⟩), .int .i64 f] W fun e w' => e = .returned (.bool true) ∧ W = w') := (bis_spec h.bd (by omega) f (by omega)).mono fun e w' hh => ⟨by rw [hh.1, hf.is], hh.2⟩
  have HVR : Hid (∀ W' u c st' kc' calls' F', MkS w W' k s u c d lb st' kc' calls' F' → Calls Try.prog 69 #[.pointer (some ⟨d, 0, none⟩)] W' fun e w' => e = .returned (.int .i64 (k : Int)) ∧ W' = w') := fun W' u c st' kc' calls' F' hm => bvars_spec hm.bd
  have HST : Hid (∀ W', Calls Try.prog 82 #[.int .i64 k] W' (IPost k (fun j => (j : Int)) W')) := fun W' => stay_spec W' k (by omega)
  have HSW : Hid (∀ W' (i : Nat), i ≤ 100 → Calls Try.prog 84 #[.int .i64 k, .int .i64 i] W' (IPost k (swF k i) W')) := fun W' i hi => swap_spec (by omega) (by omega) (by omega)
  have HSZ : Hid (∀ {W' : World} {u c : Nat} {st' : St} {kc' : Nat} {calls' : Int} {F' : Nat → Prop} {x : Int} {l : List Int}, MkS w W' k s u c d lb st' kc' calls' F' → u ≤ 900000 → Num st' x (byOrd E l) → Calls Try.prog 48 #[.pointer (some ⟨d, 0, none⟩), .int .i64 x] W' fun e W2 => e = .returned (.int .i64 (σ l : Nat)) ∧ Keeps (fun _ => False) W' W2) := fun hm hu hx => hm.sizeN hk6 hu hσ hx
  have HORD : Hid (∀ r, 0 < k → ordB k (bestB σ k (idL k, σ (idL k)) r).1 = true) := fun r hk0 => best_ord σ hk0 hid r
  have HST0 := Lib.hid h
  have HF := Lib.hid hf
  have HEE := Lib.hid hE
  have HID := Lib.hid hid
  have hwk : IntKind.i64.wrap ((k : Int) - 1) = (k : Int) - 1 := IntWalk.i64_in _ (by omega)
  obtain ⟨b0, hb0⟩ : ∃ b, (idL k, σ (idL k)) = b := ⟨_, rfl⟩
  have HB0 : Hid (b0.1 = idL k ∧ b0.2 = σ (idL k)) := by rw [← hb0]; exact ⟨rfl, rfl⟩
  rw [hb0] at HORD ⊢
  clear h hf hE hid hb0 hn hfI
  go_enter Try.func47, Try.ntmps47
  go_wp2_with fail
  refine HIS.out.mono ?_
  rintro e w' ⟨rfl, rfl⟩
  clear HIS
  go_wp2_with fail
  refine (HVR.out _ _ _ _ _ _ _ HST0.out).mono ?_
  rintro e w' ⟨rfl, rfl⟩
  go_wp2_with fail
  refine (HST.out _).mono ?_
  rintro e w1 ⟨sb, rfl, h1⟩
  have HB1 : Hid (BsS w w1 k s u c d lb f E (.slice (some ⟨sb, 0, none⟩) k k) (idL k) st kc calls F) := ⟨HST0.out.quiet h1.out.2.1, HF.out, rowF_of HST0.out.bd.lt h1.out.1 h1.out.2.2 rfl⟩
  have HSZ0 := Lib.hid (HSZ.out HB1.out.m (by omega) (x := f) (l := idL k) ⟨HF.out.is, fun β => (HF.out.ev β).trans (HEE.out β).symm⟩)
  clear h1 HST0
  go_wp2_with fail
  refine HSZ0.out.mono ?_
  rintro e w2 ⟨rfl, hk2⟩
  have HB2 := Lib.hid (HB1.out.quiet hk2)
  clear HB1 hk2 HSZ0 HST
  have HS0 : Hid (∃ st' kc' calls' F', BsS w w2 k s (u + 0 * 20160) (c + 0 * 630) d lb f E (.slice (some ⟨sb, 0, none⟩) k k) (bestB σ k b0 0).1 st' kc' calls' F' ∧ Ext st.L st.n st'.L st'.n) := ⟨st, kc, calls, F, by
    simp only [Nat.zero_mul, Nat.add_zero]
    show BsS w w2 k s u c d lb f E _ b0.1 st kc calls F
    rw [HB0.out.1]
    exact HB2.out, Ext.refl _ _⟩
  have hn0 : σ (idL k) = (bestB σ k b0 0).2 := by show _ = b0.2; rw [HB0.out.2]
  rw [hn0]
  clear HB2 hn0
  go_upto_region 4 with fail
  go_cut [29, 30] (fun a b wx => a = .int .i64 t ∧ b = .int .i64 0 ∧ wx = w2)
  case first =>
    have h100 : (t : Int) ≤ 100 := by omega
    by_cases ht0 : t = 0
    · subst ht0
      go_wp2_with fail
      all_goals (go_meet; exact ⟨rfl, rfl, rfl⟩)
    · have ht1 : (0 : Int) < (t : Int) := by omega
      have ht2 : 0 < t := by omega
      go_wp2_with fail
      all_goals (go_meet; exact ⟨rfl, rfl, rfl⟩)
  case rest =>
    obtain ⟨rfl, rfl, rfl⟩ := hcut
    have hszI : (Try.prog.info? 3).map (·.size) = some 1 := by rw [hi0]; exact congrArg some hz1
    have HLEN : Hid (∀ r, (bestB σ k b0 r).1.length = k) := fun r => best_len σ HB0.out.1 (by omega) r
    go_wp2_with fail
    go_loopg [8, 9, 30] t (fun g bv ls ts wx => ∃ r, r ≤ t ∧ g = t - r ∧ ts = .int .i64 r ∧ ls = .int .i64 ((bestB σ k b0 r).2 : Nat) ∧ Hid (BsE w wx k s (u + r * 20160) (c + r * 630) d lb f E bv (bestB σ k b0 r).1 st))
    case atStart => exact ⟨0, Nat.zero_le _, rfl, rfl, rfl, HS0.out⟩
    case round =>
      clear HS0
      obtain ⟨r, hr, rfl, rfl, rfl, HS⟩ := hrel
      by_cases hlt : r < t
      · have hrI : (r : Int) < (t : Int) := by omega
        obtain ⟨st1, kc1, calls1, F1, hb1, he1⟩ := HS.out
        obtain ⟨ao, cap, hbv, hle, hrd⟩ := hb1.r.rd
        rw [HLEN.out r] at hbv hle hrd
        subst hbv
        have HB1 := Lib.hid hb1
        have HE1 := Lib.hid he1
        have HRD := Lib.hid hrd
        clear HS hb1 he1 hrd
        go_wp2_with (at_make; refine wpList_make_full _ rfl _ _ 28 rfl wr.heap.size 3 i0 _ 1 Try.underlying28 hi0 hz0 hz1 .i64 .i64 _ _ k rfl rfl rfl rfl (by rw [hz2]; omega) (by unfold maxLen; omega) (Nat.le_refl _) ?_)
        intro w3 hown hgrow
        have k3 : Keeps (fun _ => False) wr w3 := (keeps_grown hgrow).mono (fun _ _ h => by cases h)
        have hmade : IRow w3 wr.heap.size k (fun _ => 0) := by
          have e := block_of_made (z := #[Value.int .i64 0]) (size := 1) (n := k) (by rw [Nat.mul_one]; exact hown)
          have e2 := imade k
          unfold IRow
          rw [e]
          exact congrArg (fun c => some (Obj.cells c _ _)) e2
        have HK3 := Lib.hid k3
        have hm3 : w3.heap[wr.heap.size]? = some (.cells ((List.range k).map fun _ => Value.int .i64 0).toArray 3 (0, 0)) := irow_list hmade
        obtain ⟨cs, hcs⟩ : ∃ cs, cs = (bestB σ k b0 r).1.map (Value.int .i64) := ⟨_, rfl⟩
        have HCS := Lib.hid hcs
        have hcl : cs.length = k := by rw [hcs, List.length_map]; exact HLEN.out r
        have hpos : 0 < cs.length → (some ⟨wr.heap.size, 0, none⟩ : Option Addr) = some ⟨wr.heap.size, 0, none⟩ ∧ ∃ ad, ao = some ad ∧ ∀ j v, cs[j]? = some v → w3.cell? (ad.add j) = some v := fun h0 => by
          obtain ⟨g, off, h1, h2, h3⟩ := HRD.out (by omega)
          refine ⟨rfl, _, h1, fun j v hj => ?_⟩
          rw [hcs, List.getElem?_map] at hj
          obtain ⟨x, hx, rfl⟩ := Option.map_eq_some_iff.1 hj
          rw [Addr.add_lit]
          exact (HK3.out.cell (p := ⟨g, off + j, none⟩) h2 (fun x => x)).trans (h3 j x hx)
        have h1c : ∀ v ∈ cs, v.oneCell' = true := fun v hv => by
          rw [hcs] at hv
          obtain ⟨x, _, rfl⟩ := List.mem_map.1 hv
          rfl
        have hfit : 0 + cs.length ≤ ((List.range k).map fun _ => Value.int .i64 0).length := by rw [hcl]; simp
        have hmin : cs.length = Nat.min k k := by rw [hcl]; exact (Nat.min_self k).symm
        have hbel : Below wr.heap.size wr w3 := ⟨HK3.out.os, HK3.out.tape, HK3.out.output, HK3.out.size, fun j hj => HK3.out.block j hj (fun x => x)⟩
        clear hown hgrow k3 hmade hcs
        go_wp2_with ((with_reducible show wpList _ _ _ _ _ _); refine wpList_copy_splice rfl (.tmp 36) (.tmp 37) 28 28 rfl 3 Try.underlying28 hszI _ _ _ _ _ _ rfl rfl wr.heap.size 0 _ 3 hm3 cs hmin hpos hfit h1c wr.heap.size wr hbel (Nat.le_refl _) ?_)
        intro w4 hg4 hb4
        have hk4 : Keeps (fun _ => False) wr w4 := below_keeps hb4
        obtain ⟨bb, hbb⟩ : ∃ x, bestB σ k b0 r = x := ⟨_, rfl⟩
        have HBB := Lib.hid hbb
        have hlen : bb.1.length = k := hbb ▸ HLEN.out r
        have hnow : ReadsI w4 (.slice (some ⟨wr.heap.size, 0, none⟩) k k) bb.1 := by
          have e := hg4.out
          rw [splice_all _ _ (by rw [hcl]; simp), HCS.out, hbb] at e
          have := list_row e
          rw [hlen] at this
          exact this
        have hflt := HB1.out.m.bd.lt
        have hbs4 := HB1.out.quiet hk4
        have hnr : RowF w4 F1 (.slice (some ⟨wr.heap.size, 0, none⟩) k k) bb.1 := ⟨hnow, fun g off n cap e _ hg => by
          simp only [Value.slice.injEq, Option.some.injEq, Addr.mk.injEq] at e
          have := hflt g hg
          omega⟩
        have hordb : 0 < k → ordB k bb.1 = true := fun h => hbb ▸ HORD.out r h
        have HOB := Lib.hid hordb
        have HLB := Lib.hid hlen
        rw [hbb] at hbs4 ⊢
        have HI0 : Hid (BsN w w4 k s (u + r * 20160 + 0 * 4032) (c + r * 630 + 0 * 126) d lb f E (.slice ao k cap) (roundB σ bb.1 0 bb).1 (.slice (some ⟨wr.heap.size, 0, none⟩) k k) bb.1 st) := ⟨st1, kc1, calls1, F1, by
          simp only [Nat.zero_mul, Nat.add_zero]
          exact hbs4, hnr, HE1.out⟩
        have HM4 := Lib.hid hbs4.m
        obtain ⟨g4, hg4e⟩ : ∃ g, wr.heap.size = g := ⟨_, rfl⟩
        rw [hg4e] at HI0 ⊢
        clear hg4 hb4 hk4 hg4e hbb hlen hnow hflt hbs4 hnr hordb hbel hpos h1c hfit hmin HK3 hm3 HCS HRD HB1 HE1
        go_wp2_with fail
        refine (HVR.out _ _ _ _ _ _ _ HM4.out).mono ?_
        rintro e w' ⟨rfl, rfl⟩
        clear HM4
        go_wp2_with fail
        go_loopg [8, 9, 42] (k - 1) (fun g bv ls ts wx => ∃ i, i ≤ k - 1 ∧ g = k - 1 - i ∧ ts = .int .i64 i ∧ ls = .int .i64 ((roundB σ bb.1 i bb).2 : Nat) ∧ Hid (BsN w wx k s (u + r * 20160 + i * 4032) (c + r * 630 + i * 126) d lb f E bv (roundB σ bb.1 i bb).1 (.slice (some ⟨g4, 0, none⟩) k k) bb.1 st))
        case atStart => exact ⟨0, Nat.zero_le _, rfl, rfl, rfl, HI0.out⟩
        case round =>
          clear HI0
          obtain ⟨i, hi, rfl, rfl, rfl, HS⟩ := hrel
          by_cases hlt2 : i < k - 1
          · have hiI : (i : Int) < (k : Int) - 1 := by omega
            have hi1 : i + 1 < k := by omega
            obtain ⟨st2, kc2, calls2, F2, hb2, hn2, he2⟩ := HS.out
            have HB2 := Lib.hid hb2
            have HN2 := Lib.hid hn2
            have HE2 := Lib.hid he2
            clear HS hb2 hn2 he2
            go_wp2_with fail
            refine (HVR.out _ _ _ _ _ _ _ HB2.out.m).mono ?_
            rintro e w' ⟨rfl, rfl⟩
            go_wp2_with fail
            refine (HSW.out _ i (by omega)).mono ?_
            rintro e w5 ⟨b5, rfl, h5⟩
            have HB5 := Lib.hid (HB2.out.quiet h5.out.2.1)
            have HN5 := Lib.hid (HN2.out.quiet h5.out.2.1)
            have HT := Lib.hid (then_yes (n := k) HN5.out.rd h5.out.2.2.reads HLB.out (by simp) (by omega) (HOB.out (by omega)) (by rw [swF_map hi1]; exact swap_ord HID.out hi1))
            clear HB2 HN2 h5
            go_wp2_with fail
            refine HT.out.mono ?_
            rintro e w6 ⟨G, hG, b6, rfl, h6⟩
            have HB6 := Lib.hid (HB5.out.quiet h6.out.2.1)
            have HN6 := Lib.hid (HN5.out.quiet h6.out.2.1)
            have HR6 := Lib.hid (rowF_of HB5.out.m.bd.lt h6.out.1 h6.out.2.2 (then_swap (HOB.out (by omega)) hi1 hG.out))
            have HMV := Lib.hid (HB6.out.m.movedN hk6 (by omega) (by omega) (swap_ord (HOB.out (by omega)) hi1) HB6.out.f HR6.out)
            clear HB5 HN5 HT hG h6
            go_wp2_with fail
            refine HMV.out.mono ?_
            rintro e w7 ⟨x, st3, kc3, calls3, F3, rfl, h7⟩
            have HB7 : Hid (MkS w w7 k s (u + r * 20160 + (i + 1) * 4032) (c + r * 630 + (i + 1) * 126) d lb st3 kc3 calls3 F3) := h7.out.1.wider (by omega) (by omega)
            have HF7 := Lib.hid (HB6.out.f.ext h7.out.2.2.1 HB6.out.m.fine.wf.ok.good)
            have HR7 := Lib.hid (HR6.out.move h7.out.2.1)
            have HV7 := Lib.hid (HB6.out.r.move h7.out.2.1)
            have HN7 := Lib.hid (HN6.out.move h7.out.2.1)
            have HE7 := Lib.hid (HE2.out.trans h7.out.2.2.1)
            have HSZ7 := Lib.hid (HSZ.out HB7.out (by omega) h7.out.2.2.2)
            clear HB6 HN6 HR6 HMV h7 HE2
            go_wp2_with fail
            refine HSZ7.out.mono ?_
            rintro e w8 ⟨rfl, hk8⟩
            by_cases hcmp : σ (swapL bb.1 i) < (roundB σ bb.1 i bb).2
            · have hcI : ((σ (swapL bb.1 i) : Nat) : Int) < (((roundB σ bb.1 i bb).2 : Nat) : Int) := by omega
              have hst : roundB σ bb.1 (i + 1) bb = (swapL bb.1 i, σ (swapL bb.1 i)) := by rw [roundB, if_pos hcmp]
              have HN8 : Hid (BsN w w8 k s (u + r * 20160 + (i + 1) * 4032) (c + r * 630 + (i + 1) * 126) d lb f E (.slice (some ⟨b6, 0, none⟩) k k) (roundB σ bb.1 (i + 1) bb).1 (.slice (some ⟨g4, 0, none⟩) k k) bb.1 st) := ⟨st3, kc3, calls3, F3, ⟨HB7.out.quiet hk8, HF7.out, by rw [hst]; exact HR7.out.quiet hk8⟩, HN7.out.quiet hk8, HE7.out⟩
              have HST := Lib.hid hst
              clear HB7 HF7 HR7 HV7 HN7 HE7 HSZ7 hk8 hst hcmp
              go_wp2_with fail
              go_roundg (k - 1 - (i + 1))
              case measure => omega
              case rel => exact ⟨i + 1, by omega, rfl, by go_num, by rw [HST.out], HN8.out⟩
            · have hcI : ¬ ((σ (swapL bb.1 i) : Nat) : Int) < (((roundB σ bb.1 i bb).2 : Nat) : Int) := by omega
              have hst : roundB σ bb.1 (i + 1) bb = roundB σ bb.1 i bb := by rw [roundB, if_neg hcmp]
              have HN8 : Hid (BsN w w8 k s (u + r * 20160 + (i + 1) * 4032) (c + r * 630 + (i + 1) * 126) d lb f E u8 (roundB σ bb.1 (i + 1) bb).1 (.slice (some ⟨g4, 0, none⟩) k k) bb.1 st) := ⟨st3, kc3, calls3, F3, ⟨HB7.out.quiet hk8, HF7.out, by rw [hst]; exact HV7.out.quiet hk8⟩, HN7.out.quiet hk8, HE7.out⟩
              have HST := Lib.hid hst
              clear HB7 HF7 HR7 HV7 HN7 HE7 HSZ7 hk8 hst hcmp
              go_wp2_with fail
              go_roundg (k - 1 - (i + 1))
              case measure => omega
              case rel => exact ⟨i + 1, by omega, rfl, by go_num, by rw [HST.out], HN8.out⟩
          · obtain rfl : i = k - 1 := by omega
            have hiI : ¬ ((k - 1 : Nat) : Int) < (k : Int) - 1 := by omega
            have hstp : bestB σ k b0 (r + 1) = roundB σ bb.1 (k - 1) bb := by show stepB σ k (bestB σ k b0 r) = _; rw [HBB.out]; rfl
            have HE1 : Hid (BsE w wr k s (u + (r + 1) * 20160) (c + (r + 1) * 630) d lb f E u8 (bestB σ k b0 (r + 1)).1 st) := by
              obtain ⟨st2, kc2, calls2, F2, q1, q2, q3⟩ := HS.out
              exact ⟨st2, kc2, calls2, F2, ⟨q1.m.wider (by omega) (by omega), q1.f, by rw [hstp]; exact q1.r⟩, q3⟩
            have HSTP := Lib.hid hstp
            clear HS hstp
            by_cases heq : (roundB σ bb.1 (k - 1) bb).2 = bb.2
            · have hstay : bestB σ k b0 t = bestB σ k b0 (r + 1) := by
                have e : (bestB σ k b0 (r + 1)).2 = (bestB σ k b0 r).2 := by rw [HSTP.out, HBB.out]; exact heq
                rw [best_stay σ k b0 e t (by omega), ← best_stay σ k b0 e (r + 1) (by omega)]
              have HEND : Hid (BsE w wr k s (u + t * 20160) (c + t * 630) d lb f E u8 (bestB σ k b0 t).1 st) := by
                obtain ⟨st2, kc2, calls2, F2, q1, q3⟩ := HE1.out
                exact ⟨st2, kc2, calls2, F2, ⟨q1.m.wider (by omega) (by omega), q1.f, by rw [hstay]; exact q1.r⟩, q3⟩
              have hv : ((bestB σ k b0 t).2 : Nat) = bb.2 := by rw [hstay, HSTP.out]; exact heq
              have heqI : (((roundB σ bb.1 (k - 1) bb).2 : Nat) : Int) = ((bb.2 : Nat) : Int) := by rw [heq]
              have HV := Lib.hid hv
              clear HE1 hstay hv heq
              go_wp2_with fail
              go_ret2
              exact ⟨_, by rw [HV.out]; rfl, HEND.out⟩
            · have heqI : ¬ (((roundB σ bb.1 (k - 1) bb).2 : Nat) : Int) = ((bb.2 : Nat) : Int) := by omega
              clear heq
              go_wp2_with fail
              go_roundg (t - (r + 1))
              case measure => omega
              case rel => exact ⟨r + 1, by omega, rfl, by go_num, by rw [HSTP.out], HE1.out⟩
      · obtain rfl : r = t := by omega
        have hrI : ¬ (r : Int) < (r : Int) := by omega
        go_wp2_with fail
        go_ret2
        exact ⟨_, rfl, HS.out⟩
end
end Go.Proofs.Ytipcgjigkipcpaa
