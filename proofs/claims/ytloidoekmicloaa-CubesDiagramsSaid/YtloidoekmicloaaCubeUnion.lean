/-
  The diagram of any row; of any rows together.
-/
import Derived.Test.YtloidoekmicloaaCubeDiagram
import Derived.Test.YtloidoekmicloaaCubeIs
set_option linter.unusedVariables false
set_option linter.unusedSimpArgs false
set_option linter.unnecessarySimpa false
namespace Go.Proofs.Ytloidoekmicloaa
open Go.ChangeShapes Go.WideShapes Go.ChangeAt Go.RowKit Go.Deep NodePlain
/-- Rows of numbers as a slice of slices of the caller's own: none is the maker's. -/
def NumsIn (L : List (List Int)) : Prop := ∀ c, c ∈ L → (∀ x, x ∈ c → -9223372036854775808 ≤ x ∧ x ≤ 9223372036854775807) ∧ c.length ≤ 9223372036854775807
theorem ReadsI.low {w W : World} {v : Value} {l : List Int} (h : ReadsI w v l) (hk : Keeps (fun x => w.heap.size ≤ x) w W) {F : Nat → Prop} (hF : ∀ x, F x → w.heap.size ≤ x) : RdF W F v l := by
  obtain ⟨ao, cap, hv, hle, hr⟩ := h
  refine ⟨ao, cap, hv, hle, fun h0 => ?_⟩
  obtain ⟨g, off, h1, h2, h3⟩ := hr h0
  exact ⟨g, off, h1, Nat.lt_of_lt_of_le h2 hk.size, fun hf => by have := hF g hf; omega, fun j x hj => (hk.cell (p := ⟨g, off + j, none⟩) h2 (by show ¬ w.heap.size ≤ g; omega)).trans (h3 j x hj)⟩
theorem ReadsII.row {w W : World} {ao : Option Addr} {n cap : Nat} {L : List (List Int)} (h : ReadsII w (.slice ao n cap) L) (hk : Keeps (fun x => w.heap.size ≤ x) w W) {F : Nat → Prop} (hF : ∀ x, F x → w.heap.size ≤ x) {i : Nat} {c : List Int} (hi : L[i]? = some c) :
    ∃ g off v, ao = some ⟨g, off, none⟩ ∧ i < cap ∧ W.cell? ⟨g, off + i, none⟩ = some v ∧ RdF W F v c := by
  obtain ⟨ao', cap', hv, hle, hr⟩ := h
  simp only [Value.slice.injEq] at hv
  obtain ⟨rfl, rfl, rfl⟩ := hv
  have hil := (List.getElem?_eq_some_iff.1 hi).1
  obtain ⟨g, off, h1, h2, h3⟩ := hr (by omega)
  obtain ⟨v, h4, h5⟩ := h3 i c hi
  exact ⟨g, off, v, h1, by omega, (hk.cell (p := ⟨g, off + i, none⟩) h2 (by show ¬ w.heap.size ≤ g; omega)).trans h4, h5.low hk hF⟩
section
variable {z : Nat} {W : World} {k d : Nat} {Bg : Int} {st : St} {kc : Nat} {calls : Int} {F : Nat → Prop}
/-- What Diagram leaves, of any row. -/
def DiaAny (z : Nat) (W : World) (k d : Nat) (B : Int) (st : St) (kc : Nat) (F : Nat → Prop) (c : List Int) (o : Bool) (e : Ending) (W' : World) : Prop :=
  ∃ r st' kc' calls' F', e = .returned (.tuple #[.int .i64 r, .bool o]) ∧ Hid (DgTo z W k d B st kc F 1158 24 st' kc' calls' F' W' ∧ (o = true → Num st' r (fun β => isB β 0 c)) ∧ (o = false → r = 0))
theorem cdiagram_any (hk6 : k ≤ 6) (h : Dg z W k d Bg st kc calls F) (hz : z ≤ W.heap.size) {v : Value} {c : List Int} (hr : RdF W F v c) (hx : ∀ x, x ∈ c → -9223372036854775808 ≤ x ∧ x ≤ 9223372036854775807) (hkc : kc ≤ 80000) (room : ((st.n + 1500 : Nat) : Int) < Bg) :
    Calls Try.prog 13 #[.pointer (some ⟨d, 0, none⟩), v] W (DiaAny z W k d Bg st kc F c (rightC k c)) := by
  cases e : rightC k c with
  | true =>
    obtain ⟨_, _, h1, h2⟩ := rightC_iff.1 e
    refine (cdiagram_spec hk6 h hz hr ⟨by omega, h2⟩ hkc (by omega)).mono ?_
    rintro e W' ⟨r, st', kc', calls', F', rfl, q⟩
    exact ⟨r, st', kc', calls', F', rfl, q.out.1.more (by omega) (by omega), fun _ => q.out.2, fun h => (by cases h)⟩
  | false =>
    refine (cdiagram_no h.bd (by omega) hr.reads hx e).mono ?_
    rintro e W' ⟨rfl, rfl⟩
    exact ⟨0, st, kc, calls, F, rfl, (DgTo.refl h).more (by omega) (by omega), fun h => (by cases h), fun _ => rfl⟩
/-- Are bits in one of so many rows? -/
def anyB (β : Nat → Bool) (L : List (List Int)) : Bool := L.any fun c => isB β 0 c
theorem anyB_take {β : Nat → Bool} {L : List (List Int)} {i : Nat} {c : List Int} (h : L[i]? = some c) : anyB β (L.take (i + 1)) = (anyB β (L.take i) || isB β 0 c) := by
  unfold anyB
  rw [List.take_add_one, h, List.any_append]
  simp
def allC (k : Nat) (L : List (List Int)) : Bool := L.all fun c => rightC k c
theorem allC_take {k : Nat} {L : List (List Int)} {i : Nat} {c : List Int} (h : L[i]? = some c) : allC k (L.take (i + 1)) = (allC k (L.take i) && rightC k c) := by
  unfold allC
  rw [List.take_add_one, h, List.all_append]
  simp
theorem allC_out {k : Nat} {L : List (List Int)} {i : Nat} {c : List Int} (h : L[i]? = some c) (hc : rightC k c = false) : allC k L = false := by
  cases e : allC k L with
  | false => rfl
  | true =>
    unfold allC at e
    rw [List.all_eq_true] at e
    rw [e c (List.mem_of_getElem? h)] at hc
    cases hc
def UniTo (z : Nat) (W : World) (k d : Nat) (B : Int) (st : St) (kc : Nat) (F : Nat → Prop) (L : List (List Int)) (n : Nat) (o : Bool) (e : Ending) (W' : World) : Prop :=
  ∃ r st' kc' calls' F', e = .returned (.tuple #[.int .i64 r, .bool o]) ∧ Hid (DgTo z W k d B st kc F (1300 * n) (30 * n) st' kc' calls' F' W' ∧ (o = true → Num st' r (fun β => anyB β L)) ∧ (o = false → r = 0))
set_option maxRecDepth 100000
set_option maxHeartbeats 1600000
theorem cunion_spec {w : World} (hk6 : k ≤ 6) (h : Dg w.heap.size W k d Bg st kc calls F) (hkp : Keeps (fun x => w.heap.size ≤ x) w W) {ao : Option Addr} {n cap : Nat} {L : List (List Int)} (hn : L.length = n) (hr : ReadsII w (.slice ao n cap) L) (hx : NumsIn L) (hn8 : n ≤ 8) (hkc : kc ≤ 70000) (room : ((st.n + 20000 : Nat) : Int) < Bg) :
    Calls Try.prog 18 #[.pointer (some ⟨d, 0, none⟩), .slice ao n cap] W (UniTo w.heap.size W k d Bg st kc F L n (allC k L)) := by
  have hp : 2 ^ k ≤ 64 := Nat.le_trans (Nat.pow_le_pow_right (by omega) hk6) (by decide)
  have HS0 : Hid (DgTo w.heap.size W k d Bg st kc F 0 0 st kc calls F W) := DgTo.refl h
  have HKP := Lib.hid hkp
  have HR := Lib.hid hr
  have HX := Lib.hid hx
  have HL := Lib.hid hn
  have HDIA : Hid (∀ (i : Nat) W1 st1 kc1 calls1 F1 v c, i < n → DgTo w.heap.size W k d Bg st kc F (1300 * i) (30 * i) st1 kc1 calls1 F1 W1 → c ∈ L → RdF W1 F1 v c → Calls Try.prog 13 #[.pointer (some ⟨d, 0, none⟩), v] W1 (DiaAny w.heap.size W1 k d Bg st1 kc1 F1 c (rightC k c))) := fun i W1 st1 kc1 calls1 F1 v c hi t hc hv => by
    have h1 := t.hn
    have h2 := t.hc
    have h3 := t.mv.keeps.size
    have h4 := hkp.size
    exact cdiagram_any hk6 t.dg (by omega) hv (hx c hc).1 (by omega) (by omega)
  have HOR : Hid (∀ (i : Nat) W1 st1 kc1 calls1 F1 (f g : Int) X Y, i < n → DgTo w.heap.size W k d Bg st kc F (1300 * i + 1158) (30 * i + 24) st1 kc1 calls1 F1 W1 → Num st1 f X → Num st1 g Y → Calls Try.prog 33 #[.pointer (some ⟨d, 0, none⟩), .slice (some ⟨W1.heap.size, 0, none⟩) 2 2] (W1.alloc (.cells #[.int .i64 f, .int .i64 g] 3)) (OpTo w.heap.size W1 k d Bg st1 kc1 F1 (2 * 2 ^ k) 2 k (fun β => X β || Y β))) := fun i W1 st1 kc1 calls1 F1 f g X Y hi t hx hy => by
    have h1 := t.hn
    have h2 := t.hc
    have h3 := t.mv.keeps.size
    have h4 := hkp.size
    exact t.dg.or2 (by omega) (by omega) (by omega) (by omega) hx hy (Nat.le_refl _) (t.dg.lateAll f) (t.dg.lateAll g)
  have HEND : Hid (∀ W1 st1 kc1 calls1 F1, DgTo w.heap.size W k d Bg st kc F (1300 * n) (30 * n) st1 kc1 calls1 F1 W1 → Calls Try.prog 38 #[.pointer (some ⟨d, 0, none⟩)] W1 fun e W' => e = .returned (.bool false) ∧ W1 = W') := fun W1 st1 kc1 calls1 F1 t => by
    have h1 := t.hn
    have q := bspent_spec t.dg.bd
    rw [t.dg.ns (by omega)] at q
    exact q
  have HTK : Hid (L.take n = L) := by show _ = _; rw [← hn, List.take_length]
  have HPW : Hid (2 ^ k ≤ 64) := hp
  have HFW : Hid (∀ W1 st1 kc1 calls1 F1 a b, DgTo w.heap.size W k d Bg st kc F a b st1 kc1 calls1 F1 W1 → Keeps (fun x => w.heap.size ≤ x) w W1 ∧ ∀ x, F1 x → w.heap.size ≤ x) := fun W1 st1 kc1 calls1 F1 a b t => ⟨hkp.trans_new t.mv.keeps (fun x hx hF => h.fw x hF), t.dg.fw⟩
  obtain ⟨res, hres⟩ : ∃ res, allC k L = res := ⟨_, rfl⟩
  rw [hres]
  have HB := Lib.hid hres
  clear h hkp hr hx room hp hres hn
  go_enter Try.func18, Try.ntmps18
  go_wp2_with fail
  go_loopg [6, 13] n (fun gg s t wy => ∃ (i : Nat) (f : Int) (st' : St) (kc' : Nat) (calls' : Int) (F' : Nat → Prop), i ≤ n ∧ gg = n - i ∧ s = .int .i64 f ∧ t = .int .i64 i ∧ Hid (DgTo w.heap.size W k d Bg st kc F (1300 * i) (30 * i) st' kc' calls' F' wy ∧ Num st' f (fun β => anyB β (L.take i)) ∧ allC k (L.take i) = true))
  case atStart => exact ⟨0, 0, st, kc, calls, F, Nat.zero_le _, rfl, rfl, rfl, HS0.out, (num0 st).congr fun β => rfl, rfl⟩
  case round =>
    clear HS0
    obtain ⟨i, f, st1, kc1, calls1, F1, hi, rfl, rfl, rfl, HH⟩ := hrel
    by_cases hlt : i < n
    · have hiI : (i : Int) < (n : Int) := by omega
      have hwi : IntKind.i64.wrap ((i : Int) + 1) = (i : Int) + 1 := IntWalk.i64_in _ (by omega)
      obtain ⟨c, hx⟩ : ∃ x, L[i]? = some x := ⟨_, List.getElem?_eq_getElem (by have := HL.out; omega)⟩
      obtain ⟨q1, q2⟩ := HFW.out _ _ _ _ _ _ _ HH.out.1
      obtain ⟨g, off, v, rfl, hic, c0, hrd⟩ := HR.out.row q1 q2 hx
      have HD := Lib.hid (HDIA.out i wr st1 kc1 calls1 F1 v c hlt HH.out.1 (List.mem_of_getElem? hx) hrd)
      have HCX := Lib.hid hx
      cases e : rightC k c with
      | false =>
        have hr0 : res = false := by rw [← HB.out]; exact allC_out HCX.out e
        subst hr0
        rw [e] at HD
        clear e hx hrd q1 q2
        go_wp2_with fail
        refine HD.out.mono ?_
        rintro e w2 ⟨r2, st2, kc2, calls2, F2, rfl, h2⟩
        have HN : Hid (DgTo w.heap.size W k d Bg st kc F (1300 * n) (30 * n) st2 kc2 calls2 F2 w2) := (HH.out.1.trans h2.out.1).more (by omega) (by omega)
        clear HD HH h2
        go_wp2_with fail
        go_ret2
        exact ⟨0, st2, kc2, calls2, F2, rfl, HN.out, fun h => (by cases h), fun _ => rfl⟩
      | true =>
        have HAL : Hid (allC k (L.take (i + 1)) = true) := by show _ = _; rw [allC_take HCX.out, HH.out.2.2, e]; rfl
        have HT : Hid (∀ β, anyB β (L.take (i + 1)) = (anyB β (L.take i) || isB β 0 c)) := fun β => anyB_take HCX.out
        rw [e] at HD
        clear e hx hrd q1 q2
        go_wp2_with fail
        refine HD.out.mono ?_
        rintro e w2 ⟨r2, st2, kc2, calls2, F2, rfl, h2⟩
        have HT2 := Lib.hid (HH.out.1.trans h2.out.1)
        have HO := Lib.hid (HOR.out i w2 st2 kc2 calls2 F2 f r2 _ _ hlt HT2.out (HH.out.2.1.to h2.out.1 HH.out.1.dg.good) (h2.out.2.1 rfl))
        clear HD HH h2 c0
        go_wp2_with fail
        refine HO.out.mono ?_
        rintro e w4 ⟨r4, st4, kc4, calls4, F4, rfl, h4⟩
        have HN : Hid (DgTo w.heap.size W k d Bg st kc F (1300 * (i + 1)) (30 * (i + 1)) st4 kc4 calls4 F4 w4 ∧ Num st4 r4 (fun β => anyB β (L.take (i + 1))) ∧ allC k (L.take (i + 1)) = true) :=
          ⟨(HT2.out.trans h4.out.1).more (by have := HPW.out; omega) (by omega), h4.out.2.1.congr fun β => (HT.out β).symm, HAL.out⟩
        clear HT2 h4 HT HAL HO
        go_wp2_with fail
        go_roundg (n - (i + 1))
        case measure => omega
        case rel => exact ⟨i + 1, r4, st4, kc4, calls4, F4, by omega, rfl, rfl, by go_num, HN⟩
    · obtain rfl : i = n := by omega
      have hiI : ¬ (i : Int) < (i : Int) := by omega
      have HSP := Lib.hid (HEND.out wr st1 kc1 calls1 F1 HH.out.1)
      have hr1 : res = true := by rw [← HB.out, ← HTK.out]; exact HH.out.2.2
      subst hr1
      have HN : Hid (DgTo w.heap.size W k d Bg st kc F (1300 * i) (30 * i) st1 kc1 calls1 F1 wr ∧ Num st1 f (fun β => anyB β L)) := ⟨HH.out.1, HH.out.2.1.congr fun β => by rw [HTK.out]⟩
      clear HH
      go_wp2_with fail
      refine HSP.out.mono ?_
      rintro e w2 ⟨rfl, rfl⟩
      clear HSP
      go_wp2_with fail
      go_ret2
      exact ⟨f, st1, kc1, calls1, F1, rfl, HN.out.1, fun _ => HN.out.2, fun h => (by cases h)⟩
end
end Go.Proofs.Ytloidoekmicloaa
