/-
  A cube's diagram.
-/
import Derived.Test.YtloidoekmicloaaMV
import Derived.Test.YtloidoekmicloaaCubeRight
set_option linter.unusedVariables false
set_option linter.unusedSimpArgs false
set_option linter.unnecessarySimpa false
namespace Go.Proofs.Ytloidoekmicloaa
open Go.ChangeShapes Go.WideShapes Go.ChangeAt Go.RowKit Go.Deep NodePlain
/-- A slice that reads as numbers, and is no maker's. -/
def RdF (w : World) (F : Nat → Prop) (v : Value) (l : List Int) : Prop :=
  ∃ ao cap, v = .slice ao l.length cap ∧ l.length ≤ cap ∧ (0 < l.length → ∃ g off, ao = some ⟨g, off, none⟩ ∧ g < w.heap.size ∧ ¬ F g ∧ ∀ (j : Nat) (x : Int), l[j]? = some x → w.cell? ⟨g, off + j, none⟩ = some (.int .i64 x))
theorem RdF.reads {w : World} {F : Nat → Prop} {v : Value} {l : List Int} (h : RdF w F v l) : ReadsI w v l := by
  obtain ⟨ao, cap, hv, hle, hr⟩ := h
  refine ⟨ao, cap, hv, hle, fun h0 => ?_⟩
  obtain ⟨g, off, h1, h2, _, h4⟩ := hr h0
  exact ⟨g, off, h1, h2, h4⟩
theorem RdF.mv {w w' : World} {F F' : Nat → Prop} {v : Value} {l : List Int} (h : RdF w F v l) (m : Mv w w' F F') : RdF w' F' v l := by
  obtain ⟨ao, cap, hv, hle, hr⟩ := h
  refine ⟨ao, cap, hv, hle, fun h0 => ?_⟩
  obtain ⟨g, off, h1, h2, h3, h4⟩ := hr h0
  exact ⟨g, off, h1, Nat.lt_of_lt_of_le h2 m.keeps.size, fun hf => (m.fp g hf).elim h3 (fun hf => by omega), fun j x hj => (m.keeps.cell (p := ⟨g, off + j, none⟩) h2 h3).trans (h4 j x hj)⟩
theorem RdF.blk {w : World} {F : Nat → Prop} {g k : Nat} {c : List Int} (h : CubeBlk w g c) (hk : c.length = k) (hf : ¬ F g) : RdF w F (.slice (some ⟨g, 0, none⟩) k k) c := by
  refine ⟨some ⟨g, 0, none⟩, k, by rw [hk], by omega, fun _ => ⟨g, 0, rfl, lt_of_heap h, hf, fun j x hj => ?_⟩⟩
  rw [Nat.zero_add, cell_of_heap h]
  exact crow_get hj
theorem isB_app (β : Nat → Bool) : ∀ (a b : List Int) (i : Nat), isB β i (a ++ b) = (isB β i a && isB β (i + a.length) b)
  | [], b, i => by simp [isB]
  | x :: a, b, i => by
    show ((decide (x < 0) || decide (x = if β i then 1 else 0)) && isB β (i + 1) (a ++ b)) = (((decide (x < 0) || decide (x = if β i then 1 else 0)) && isB β (i + 1) a) && isB β (i + (a.length + 1)) b)
    rw [isB_app β a b (i + 1), Bool.and_assoc, show i + 1 + a.length = i + (a.length + 1) by omega]
theorem isB_take {β : Nat → Bool} {c : List Int} {i : Nat} {x : Int} (hx : c[i]? = some x) : isB β 0 (c.take (i + 1)) = (isB β 0 (c.take i) && (decide (x < 0) || decide (x = if β i then 1 else 0))) := by
  have hi := (List.getElem?_eq_some_iff.1 hx).1
  rw [List.take_add_one, hx, isB_app]
  show (_ && isB β (0 + (c.take i).length) [x]) = _
  rw [List.length_take, Nat.min_eq_left (by omega), Nat.zero_add]
  simp [isB]
section
variable {z : Nat} {W : World} {k d : Nat} {Bg : Int} {st : St} {kc : Nat} {calls : Int} {F : Nat → Prop}
theorem Dg.lateAll (h : Dg z W k d Bg st kc calls F) (x : Int) : Late (k : Int) st k x := by
  have := var_pos (V := (k : Int)) (by omega) h.good x
  unfold Late
  omega
/-- What Diagram leaves. -/
def DiaTo (z : Nat) (W : World) (k d : Nat) (B : Int) (st : St) (kc : Nat) (F : Nat → Prop) (c : List Int) (e : Ending) (W' : World) : Prop :=
  ∃ r st' kc' calls' F', e = .returned (.tuple #[.int .i64 r, .bool true]) ∧ Hid (DgTo z W k d B st kc F (193 * k) (4 * k) st' kc' calls' F' W' ∧ Num st' r (fun β => isB β 0 c))
set_option maxRecDepth 100000
set_option maxHeartbeats 1600000
theorem cdiagram_spec (hk6 : k ≤ 6) (h : Dg z W k d Bg st kc calls F) (hz : z ≤ W.heap.size) {v : Value} {c : List Int} (hr : RdF W F v c) (hc : CubeR k c) (hkc : kc ≤ 80000) (room : ((st.n + 193 * k + 200 : Nat) : Int) < Bg) :
    Calls Try.prog 13 #[.pointer (some ⟨d, 0, none⟩), v] W (DiaTo z W k d Bg st kc F c) := by
  have hp : 2 ^ k ≤ 64 := Nat.le_trans (Nat.pow_le_pow_right (by omega) hk6) (by decide)
  have HV := Lib.hid (bvars_spec h.bd)
  have HRT : Hid (Calls Try.prog 20 #[.int .i64 (k : Int), v] W fun e W' => e = .returned (.bool true) ∧ W = W') := by
    have q := cright_spec (vars := (k : Int)) (by omega) (by omega) hr.reads (fun x hx => by rcases hc.2 x hx with rfl | rfl | rfl <;> omega)
    rw [rightC_iff.2 ⟨by omega, by omega, by rw [hc.1], hc.2⟩] at q
    exact q
  have HS0 : Hid (DgTo z W k d Bg st kc F 0 0 st kc calls F W) := DgTo.refl h
  have HC := Lib.hid hc
  have HR0 := Lib.hid hr
  obtain ⟨ao, cap, rfl, hcap, hrr⟩ := hr
  have hcl := hc.1
  rw [hcl] at hcap HRT HR0 ⊢
  have HLIT : Hid (∀ (i : Nat) W1 st1 kc1 calls1 F1, i < k → DgTo z W k d Bg st kc F (193 * i) (4 * i) st1 kc1 calls1 F1 W1 → Calls Try.prog 27 #[.pointer (some ⟨d, 0, none⟩), .int .i64 i] W1 (OpTo z W1 k d Bg st1 kc1 F1 1 1 (k - i) (fun β => β i))) := fun i W1 st1 kc1 calls1 F1 hi t => by
    have h1 := t.hn
    have h2 := t.hc
    have h3 := t.mv.keeps.size
    exact t.dg.lit (by omega) (by omega) (by omega) (by omega) hi
  have HNOT : Hid (∀ (i : Nat) W1 st1 kc1 calls1 F1 (f : Int) X, i < k → DgTo z W k d Bg st kc F (193 * i + 1) (4 * i + 1) st1 kc1 calls1 F1 W1 → Num st1 f X → Calls Try.prog 31 #[.pointer (some ⟨d, 0, none⟩), .int .i64 f] W1 (OpTo z W1 k d Bg st1 kc1 F1 (2 ^ k) 1 k (fun β => !X β))) := fun i W1 st1 kc1 calls1 F1 f X hi t hx => by
    have h1 := t.hn
    have h2 := t.hc
    have h3 := t.mv.keeps.size
    exact t.dg.not (by omega) (by omega) (by omega) (by omega) hx (t.dg.lateAll f)
  have HAND : Hid (∀ (i a : Nat) W1 st1 kc1 calls1 F1 (f g : Int) X Y, i < k → a ≤ 65 → DgTo z W k d Bg st kc F (193 * i + a) (4 * i + 2) st1 kc1 calls1 F1 W1 → Num st1 f X → Num st1 g Y → Calls Try.prog 32 #[.pointer (some ⟨d, 0, none⟩), .slice (some ⟨W1.heap.size, 0, none⟩) 2 2] (W1.alloc (.cells #[.int .i64 f, .int .i64 g] 3)) (OpTo z W1 k d Bg st1 kc1 F1 (2 * 2 ^ k) 2 k (fun β => X β && Y β))) := fun i a W1 st1 kc1 calls1 F1 f g X Y hi ha t hx hy => by
    have h1 := t.hn
    have h2 := t.hc
    have h3 := t.mv.keeps.size
    exact t.dg.and2 (by omega) (by omega) (by omega) (by omega) hx hy (Nat.le_refl _) (t.dg.lateAll f) (t.dg.lateAll g)
  have HEND : Hid (∀ W1 st1 kc1 calls1 F1, DgTo z W k d Bg st kc F (193 * k) (4 * k) st1 kc1 calls1 F1 W1 → Calls Try.prog 38 #[.pointer (some ⟨d, 0, none⟩)] W1 fun e W' => e = .returned (.bool false) ∧ W1 = W') := fun W1 st1 kc1 calls1 F1 t => by
    have h1 := t.hn
    have q := bspent_spec t.dg.bd
    rw [t.dg.ns (by omega)] at q
    exact q
  have HCT : Hid (∀ β, isB β 0 (c.take k) = isB β 0 c) := fun β => by rw [← hcl, List.take_length]
  have HPW : Hid (2 ^ k ≤ 64) := hp
  clear h hrr hcl hc room hz hp
  go_enter Try.func13, Try.ntmps13
  go_wp2_with fail
  refine HV.out.mono ?_
  rintro e w1 ⟨rfl, rfl⟩
  go_wp2_with fail
  refine HRT.out.mono ?_
  rintro e w1 ⟨rfl, rfl⟩
  clear HV HRT
  go_wp2_with fail
  go_loopg [6, 16] k (fun gg s t wy => ∃ (i : Nat) (f : Int) (st' : St) (kc' : Nat) (calls' : Int) (F' : Nat → Prop), i ≤ k ∧ gg = k - i ∧ s = .int .i64 f ∧ t = .int .i64 i ∧ Hid (DgTo z W k d Bg st kc F (193 * i) (4 * i) st' kc' calls' F' wy ∧ Num st' f (fun β => isB β 0 (c.take i)) ∧ RdF wy F' (.slice ao k cap) c))
  case atStart => exact ⟨0, 1, st, kc, calls, F, Nat.zero_le _, rfl, rfl, rfl, HS0.out, (num1 st).congr fun β => rfl, HR0.out⟩
  case round =>
    clear HS0 HR0
    obtain ⟨i, f, st1, kc1, calls1, F1, hi, rfl, rfl, rfl, HH⟩ := hrel
    by_cases hlt : i < k
    · have hiI : (i : Int) < (k : Int) := by omega
      have hwi : IntKind.i64.wrap ((i : Int) + 1) = (i : Int) + 1 := IntWalk.i64_in _ (by omega)
      obtain ⟨x, hx⟩ : ∃ x, c[i]? = some x := ⟨_, List.getElem?_eq_getElem (by have := HC.out.1; omega)⟩
      obtain ⟨ao', cap', hv', _, hrd⟩ := HH.out.2.2
      simp only [Value.slice.injEq] at hv'
      obtain ⟨rfl, hk', rfl⟩ := hv'
      clear hk'
      obtain ⟨b, off, rfl, hb, _, hcc⟩ := hrd (by have := HC.out.1; omega)
      have c0 := hcc i x hx
      have hicap : i < cap := by omega
      have h3 := HC.out.2 x (List.mem_of_getElem? hx)
      have HT : Hid (∀ β, isB β 0 (c.take (i + 1)) = (isB β 0 (c.take i) && (decide (x < 0) || decide (x = if β i then 1 else 0)))) := fun β => isB_take hx
      clear hx hcc hrd
      rcases h3 with rfl | rfl | rfl
      · have HL := Lib.hid (HLIT.out i wr st1 kc1 calls1 F1 hlt HH.out.1)
        go_wp2_with fail
        refine HL.out.mono ?_
        rintro e w2 ⟨r2, st2, kc2, calls2, F2, rfl, h2⟩
        clear HL
        have HT2 := Lib.hid (HH.out.1.trans h2.out.1)
        have HL := Lib.hid (HNOT.out i w2 st2 kc2 calls2 F2 r2 _ hlt HT2.out h2.out.2.1)
        go_wp2_with fail
        refine HL.out.mono ?_
        rintro e w3 ⟨r3, st3, kc3, calls3, F3, rfl, h3⟩
        clear HL
        have HT3 := Lib.hid ((HT2.out.trans h3.out.1).more (n' := 193 * i + (1 + 2 ^ k)) (c' := 4 * i + 2) (by omega) (by omega))
        have HF3 : Hid (Num st3 f (fun β => isB β 0 (c.take i))) := (HH.out.2.1.to h2.out.1 HH.out.1.dg.good).to h3.out.1 HT2.out.dg.good
        have HRD := Lib.hid ((HH.out.2.2.mv h2.out.1.mv).mv h3.out.1.mv)
        have HL := Lib.hid (HAND.out i (1 + 2 ^ k) w3 st3 kc3 calls3 F3 f r3 _ _ hlt (by have := HPW.out; omega) HT3.out HF3.out h3.out.2.1)
        clear HH h2 HT2
        go_wp2_with fail
        refine HL.out.mono ?_
        rintro e w4 ⟨r4, st4, kc4, calls4, F4, rfl, h4⟩
        clear HL
        have HN : Hid (DgTo z W k d Bg st kc F (193 * (i + 1)) (4 * (i + 1)) st4 kc4 calls4 F4 w4 ∧ Num st4 r4 (fun β => isB β 0 (c.take (i + 1))) ∧ RdF w4 F4 (.slice (some ⟨b, off, none⟩) k cap) c) := by
          refine ⟨(HT3.out.trans h4.out.1).more (by have := HPW.out; omega) (by omega), h4.out.2.1.congr fun β => ?_, HRD.out.mv h4.out.1.mv⟩
          rw [HT.out β]
          cases β i <;> simp
        clear HT3 h4 h3 HF3 HRD HT
        go_wp2_with fail
        go_roundg (k - (i + 1))
        case measure => omega
        case rel => exact ⟨i + 1, r4, st4, kc4, calls4, F4, by omega, rfl, rfl, by go_num, HN⟩
      · have HL := Lib.hid (HLIT.out i wr st1 kc1 calls1 F1 hlt HH.out.1)
        go_wp2_with fail
        refine HL.out.mono ?_
        rintro e w2 ⟨r2, st2, kc2, calls2, F2, rfl, h2⟩
        clear HL
        have HT2 := Lib.hid ((HH.out.1.trans h2.out.1).more (n' := 193 * i + 1) (c' := 4 * i + 2) (by omega) (by omega))
        have HF2 : Hid (Num st2 f (fun β => isB β 0 (c.take i))) := HH.out.2.1.to h2.out.1 HH.out.1.dg.good
        have HRD := Lib.hid (HH.out.2.2.mv h2.out.1.mv)
        have HL := Lib.hid (HAND.out i 1 w2 st2 kc2 calls2 F2 f r2 _ _ hlt (by omega) HT2.out HF2.out h2.out.2.1)
        clear HH
        go_wp2_with fail
        refine HL.out.mono ?_
        rintro e w4 ⟨r4, st4, kc4, calls4, F4, rfl, h4⟩
        clear HL
        have HN : Hid (DgTo z W k d Bg st kc F (193 * (i + 1)) (4 * (i + 1)) st4 kc4 calls4 F4 w4 ∧ Num st4 r4 (fun β => isB β 0 (c.take (i + 1))) ∧ RdF w4 F4 (.slice (some ⟨b, off, none⟩) k cap) c) := by
          refine ⟨(HT2.out.trans h4.out.1).more (by have := HPW.out; omega) (by omega), h4.out.2.1.congr fun β => ?_, HRD.out.mv h4.out.1.mv⟩
          rw [HT.out β]
          cases β i <;> simp
        clear HT2 h4 h2 HF2 HRD HT
        go_wp2_with fail
        go_roundg (k - (i + 1))
        case measure => omega
        case rel => exact ⟨i + 1, r4, st4, kc4, calls4, F4, by omega, rfl, rfl, by go_num, HN⟩
      · have HN : Hid (DgTo z W k d Bg st kc F (193 * (i + 1)) (4 * (i + 1)) st1 kc1 calls1 F1 wr ∧ Num st1 f (fun β => isB β 0 (c.take (i + 1))) ∧ RdF wr F1 (.slice (some ⟨b, off, none⟩) k cap) c) := by
          refine ⟨HH.out.1.more (by omega) (by omega), HH.out.2.1.congr fun β => ?_, HH.out.2.2⟩
          rw [HT.out β]
          simp
        clear HH HT
        go_wp2_with fail
        go_roundg (k - (i + 1))
        case measure => omega
        case rel => exact ⟨i + 1, f, st1, kc1, calls1, F1, by omega, rfl, rfl, by go_num, HN⟩
    · obtain rfl : i = k := by omega
      have hiI : ¬ (i : Int) < (i : Int) := by omega
      have HSP := Lib.hid (HEND.out wr st1 kc1 calls1 F1 HH.out.1)
      have HN : Hid (DgTo z W i d Bg st kc F (193 * i) (4 * i) st1 kc1 calls1 F1 wr ∧ Num st1 f (fun β => isB β 0 c)) := ⟨HH.out.1, HH.out.2.1.congr fun β => HCT.out β⟩
      clear HH
      go_wp2_with fail
      refine HSP.out.mono ?_
      rintro e w2 ⟨rfl, rfl⟩
      clear HSP
      go_wp2_with fail
      go_ret2
      exact ⟨f, st1, kc1, calls1, F1, rfl, HN⟩
theorem cdiagram_no (h : Bd W d k Bg st calls F) (hk : k ≤ 61) {v : Value} {c : List Int} (hr : ReadsI W v c) (hx : ∀ x, x ∈ c → -9223372036854775808 ≤ x ∧ x ≤ 9223372036854775807) (hc : rightC k c = false) :
    Calls Try.prog 13 #[.pointer (some ⟨d, 0, none⟩), v] W fun e W' => e = .returned (.tuple #[.int .i64 0, .bool false]) ∧ W = W' := by
  have HV := Lib.hid (bvars_spec h)
  have HRT := Lib.hid (cright_spec (vars := (k : Int)) (by omega) (by omega) hr hx)
  rw [hc] at HRT
  obtain ⟨ao, cap, rfl, hcap, hrr⟩ := hr
  clear h hrr
  go_enter Try.func13, Try.ntmps13
  go_wp2_with fail
  refine HV.out.mono ?_
  rintro e w1 ⟨rfl, rfl⟩
  go_wp2_with fail
  refine HRT.out.mono ?_
  rintro e w1 ⟨rfl, rfl⟩
  clear HV HRT
  go_wp2_with fail
  go_ret2
  exact ⟨rfl, rfl⟩
end
end Go.Proofs.Ytloidoekmicloaa
