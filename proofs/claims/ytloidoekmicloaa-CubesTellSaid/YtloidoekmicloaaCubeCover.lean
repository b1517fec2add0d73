/-
  between of whatever is between; Cover.
-/
import Derived.Test.YtloidoekmicloaaCubeBetStep
import Derived.Test.YtloidoekmicloaaCubeEntails
set_option linter.unusedVariables false
set_option linter.unusedSimpArgs false
set_option linter.unnecessarySimpa false
namespace Go.Proofs.Ytloidoekmicloaa
open Go.ChangeShapes Go.WideShapes Go.ChangeAt Go.RowKit Go.Deep NodePlain
theorem bet_all {k d : Nat} {Bg : Int} (hk6 : k ≤ 6) {low high f : (Nat → Bool) → Bool} {L : List (List Int)} {n c : Nat} (h : Bt k low high L f n c) : BetIs k d Bg low high L f n c := by
  induction h with
  | zero low high h => exact bet_zero h
  | one low high β h0 h1 => exact bet_one h0 h1 hk6
  | step low high v hv β0 h0 β1 h1 hind hdep A B C fa fb fc na nb nc ca cb cc a b c ia ib ic => exact bet_step hk6 hv h0 h1 hind hdep a b c ia ib ic
section
variable {z : Nat} {W : World} {k d : Nat} {Bg : Int} {st : St} {kc : Nat} {calls : Int} {F : Nat → Prop}
set_option maxRecDepth 100000
set_option maxHeartbeats 1600000
def CovTo (z : Nat) (W : World) (k d : Nat) (B : Int) (st : St) (kc : Nat) (F : Nat → Prop) (n c : Nat) (L : List (List Int)) (e : Ending) (W' : World) : Prop :=
  ∃ ao cap bs st' kc' calls' F', e = .returned (.tuple #[.slice ao L.length cap, .bool true]) ∧ Hid (DgTo z W k d B st kc F n c st' kc' calls' F' W' ∧ Cb W.heap.size W' F' k (.slice ao L.length cap) L bs)
theorem ccover_spec {S g : (Nat → Bool) → Bool} {L : List (List Int)} {n c : Nat} (hbt : Bt k S S L g n c) (hk6 : k ≤ 6) (h : Dg z W k d Bg st kc calls F) (hz : z ≤ W.heap.size) {f : Int} (hf : Num st f S) (hkc : kc + c ≤ 80000) (room : ((st.n + n + 2 * 2 ^ k : Nat) : Int) < Bg) :
    Calls Try.prog 9 #[.pointer (some ⟨d, 0, none⟩), .int .i64 f] W (CovTo z W k d Bg st kc F n c L) := by
  have hn8 : st.n ≤ 100000000 := by have := h.fine.wf.n; omega
  have hfr := hf.range hn8
  have HI := Lib.hid (bis_spec h.bd (by omega) f (by omega))
  rw [hf.is] at HI
  have HB := Lib.hid (bet_all hk6 hbt z W st kc calls F f f h hz (fun _ hb => hb) hf hf hkc room)
  have IS := hbt.isop (fun _ hb => hb)
  have HEQ : Hid (∀ β, g β = S β) := fun β => by
    cases e : S β with
    | true => exact IS.lo β e
    | false =>
      cases e2 : g β with
      | false => rfl
      | true => have := IS.hi β e2; rw [e] at this; cases this
  have HF := Lib.hid hf
  have HGD := Lib.hid h.good
  have hkn := h.fine.wf.n
  obtain ⟨m, hm⟩ : ∃ m, L.length = m := ⟨_, rfl⟩
  have HM := Lib.hid hm
  have HRM := Lib.hid room
  clear h IS hbt hm hf room
  go_enter Try.func9, Try.ntmps9
  go_wp2_with fail
  refine HI.out.mono ?_
  rintro e w' ⟨rfl, rfl⟩
  clear HI
  go_wp2_with fail
  refine HB.out.mono ?_
  rintro e w1 ⟨ao, cap, r, bs, st1, kc1, calls1, F1, rfl, q⟩
  have hr : r = f := by
    have h1 : Num st1 f S := HF.out.ext q.out.1.ext HGD.out
    exact (q.out.2.1.congr HEQ.out).eq h1 q.out.1.dg.good (fun _ => rfl)
  subst hr
  rw [HM.out] at q ⊢
  have hk2 : Keeps (fun _ => False) w1 (w1.alloc (.cells #[.slice ao m cap, .int .i64 r] 70)) := (Keeps.refl _ _).alloc _
  have hal := (MapKept.heap_alloc w1 (.cells #[.slice ao m cap, .int .i64 r] 70)).1
  have HQ : Hid (DgTo z W k d Bg st kc F n c st1 kc1 calls1 F1 (w1.alloc (.cells #[.slice ao m cap, .int .i64 r] 70)) ∧ Cb W.heap.size (w1.alloc (.cells #[.slice ao m cap, .int .i64 r] 70)) F1 k (.slice ao m cap) L bs) := ⟨q.out.1.quiet hk2, q.out.2.2.quiet hk2⟩
  have hn1 := q.out.1.hn
  have his1 : isN st1.n r = true := (q.out.2.1).is
  have hns : st1.s = false := q.out.1.dg.ns (by have := HRM.out; have : 0 ≤ 2 ^ k := Nat.zero_le _; omega)
  have hn8' : st1.n ≤ 100000000 := by have := q.out.1.dg.fine.wf.n; have := q.out.1.hc; omega
  go_upto_region 4 with fail
  generalize hw2 : (w1.alloc (.cells #[.slice ao m cap, .int .i64 r] 70)) = w2 at *
  have HSP := Lib.hid (bspent_spec HQ.out.1.dg.bd)
  rw [hns] at HSP
  have HEN := Lib.hid (entails_self HQ.out.1.dg.bd hn8' his1)
  have c0 := cell_of_heap hal 0
  have c1 := cell_of_heap hal 1
  simp only [List.getElem?_toArray, List.getElem?_cons_zero, List.getElem?_cons_succ] at c0 c1
  have HAL := Lib.hid hal
  clear hw2 q hk2 hal HB HF HGD HEQ
  go_wp2_with fail
  refine HSP.out.mono ?_
  rintro e w' ⟨rfl, rfl⟩
  clear HSP
  go_wp2_with fail
  refine HEN.out.mono ?_
  rintro e w3 ⟨rfl, hk3⟩
  have hal3 := (hk3.out.block _ (lt_of_heap HAL.out) (fun x => x)).trans HAL.out
  have d0 := cell_of_heap hal3 0
  simp only [List.getElem?_toArray, List.getElem?_cons_zero, List.getElem?_cons_succ] at d0
  have HP : Hid (DgTo z W k d Bg st kc F n c st1 kc1 calls1 F1 w3 ∧ Cb W.heap.size w3 F1 k (.slice ao m cap) L bs) := ⟨HQ.out.1.quiet hk3.out, HQ.out.2.quiet hk3.out⟩
  clear HQ HEN hal3 HAL c0 c1 hk3
  go_wp2_with fail
  go_ret2
  refine ⟨ao, cap, bs, st1, kc1, calls1, F1, ?_, ?_⟩
  · rw [HM.out]; rfl
  · rw [HM.out]; exact HP
theorem ccover_no (h : Bd W d k Bg st calls F) (hn : st.n ≤ 100000000) {f : Int} (hf1 : f ≤ 9223372036854775807) (hi : isN st.n f = false) :
    Calls Try.prog 9 #[.pointer (some ⟨d, 0, none⟩), .int .i64 f] W fun e W' => e = .returned (.tuple #[.slice none 0 0, .bool false]) ∧ W = W' := by
  have HI := Lib.hid (bis_spec h (by omega) f hf1)
  rw [hi] at HI
  clear h
  go_enter Try.func9, Try.ntmps9
  go_wp2_with fail
  refine HI.out.mono ?_
  rintro e w' ⟨rfl, rfl⟩
  go_wp2_with fail
  go_ret2
  exact ⟨rfl, rfl⟩
end
end Go.Proofs.Ytloidoekmicloaa
