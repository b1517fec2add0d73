/-
  The walk of the law CubesDiagrams.
-/
import Derived.Test.YtloidoekmicloaaCubeUnion
import Derived.Test.YtloidoekmicloaaCubeLives
import Derived.Test.YtloidoekmicloaaCubeRight
import Derived.Deep.Matrix
import Derived.Test.YtloidoekmicloaaKit
import Derived.Test.YtloidoekmicloaaItePlayWalk
set_option linter.unusedVariables false
set_option linter.unusedSimpArgs false
set_option linter.unnecessarySimpa false
namespace Go.Proofs.Ytloidoekmicloaa
open Go.ChangeShapes Go.WideShapes Go.ChangeAt Go.RowKit Go.Deep NodePlain
/-- An argument that is a slice of slices of numbers. -/
theorem rows_of_trod {H : Type} {enc : TypeId × Value → H} {w : World} {base : Nat} {held : Bool} {fuel : Nat} {ao : Option Addr} {n cap : Nat} {x : DataW H × List MemPlace} (h : DataW.trod enc Try.prog w base (fun _ => true) held fuel 31 [.slice ao n cap] = some x) :
    n ≤ cap ∧ cap ≤ 9223372036854775807 ∧ ∃ L, L.length = n ∧ ReadsII w (.slice ao n cap) L ∧ NumsIn L := by
  rcases open_int_rows (e := 27) (q := 3) (k := .i64) Try.underlying31 Try.underlying27 Try.underlying3 (by kernel_rfl) (by kernel_rfl) h with ⟨hcs, _⟩ | ⟨a, len, cap', A, Ln, C, Z, hcs, _, hle, hmx, _, hr⟩
  · simp only [List.cons.injEq, Value.slice.injEq, and_true] at hcs
    obtain ⟨rfl, rfl, rfl⟩ := hcs
    exact ⟨Nat.le_refl _, by omega, [], rfl, ⟨none, 0, rfl, Nat.le_refl _, fun h => absurd h (by simp)⟩, fun c hc => by simp at hc⟩
  · simp only [List.cons.injEq, Value.slice.injEq, and_true] at hcs
    obtain ⟨rfl, rfl, rfl⟩ := hcs
    unfold maxLen at hmx
    refine ⟨hle, by omega, (List.range n).map fun r => (Z r).take (Ln r), by simp, ?_, ?_⟩
    · refine ⟨some a, cap, by simp, by simpa using hle, fun h0 => ?_⟩
      have h0' : 0 < n := by simpa using h0
      obtain ⟨b, off, spot⟩ := a
      have hs : spot = none := by
        have := World.cell?_spot (hr 0 (by omega)).1
        simpa [Addr.add] using this
      subst hs
      refine ⟨b, off, rfl, by have := lt_of_cell (hr 0 (by omega)).1; simpa [Addr.add] using this, fun j c hj => ?_⟩
      have hjn : j < n := by have := (List.getElem?_eq_some_iff.1 hj).1; simpa using this
      rw [List.getElem?_map, List.getElem?_range hjn] at hj
      simp only [Option.map_some, Option.some.injEq] at hj
      subst hj
      obtain ⟨q1, q2, q3, q4, q5, q6, q7⟩ := hr j (by omega)
      rw [add_plain] at q1
      have hlen : ((Z j).take (Ln j)).length = Ln j := by rw [List.length_take, q4]; omega
      refine ⟨_, q1, A j, C j, by rw [hlen], by rw [hlen]; exact q2, fun h1 => ?_⟩
      rw [hlen] at h1
      cases ha : A j with
      | none => have := q6 ha; omega
      | some a' =>
        obtain ⟨_, hc⟩ := q7 a' ha
        obtain ⟨b', off', spot'⟩ := a'
        have hs : spot' = none := by
          have := World.cell?_spot (hc 0 (by omega))
          simpa [Addr.add] using this
        subst hs
        refine ⟨b', off', rfl, by have := lt_of_cell (hc 0 (by omega)); simpa [Addr.add] using this, fun i y hy => ?_⟩
        have hi : i < Ln j := by have := (List.getElem?_eq_some_iff.1 hy).1; omega
        rw [List.getElem?_take_of_lt hi] at hy
        have := hc i (by omega)
        rw [add_plain, List.getD_eq_getElem?_getD, hy] at this
        exact this
    · intro c hc
      obtain ⟨r, hrn, rfl⟩ := List.mem_map.1 hc
      have hrn := List.mem_range.1 hrn
      obtain ⟨q1, q2, q3, q4, q5, q6, q7⟩ := hr r (by omega)
      unfold maxLen at q3
      refine ⟨fun y hy => ?_, by rw [List.length_take]; omega⟩
      have := q5 y (List.mem_of_mem_take hy)
      simp only [Lit.wf, Bool.and_eq_true, decide_eq_true_eq] at this
      have e1 : IntKind.i64.min = -9223372036854775808 := rfl
      have e2 : IntKind.i64.max = 9223372036854775807 := rfl
      rw [e1, e2] at this
      exact this
theorem ReadsII.take {w : World} {ao : Option Addr} {n cap : Nat} {L : List (List Int)} (h : ReadsII w (.slice ao n cap) L) (hn : L.length = n) {m : Nat} (hm : m ≤ n) : ReadsII w (.slice ao m cap) (L.take m) := by
  obtain ⟨ao', cap', hv, hle, hr⟩ := h
  simp only [Value.slice.injEq] at hv
  obtain ⟨rfl, _, rfl⟩ := hv
  have hl : (L.take m).length = m := by rw [List.length_take]; omega
  refine ⟨ao, cap, by rw [hl], by rw [hl]; omega, fun h0 => ?_⟩
  obtain ⟨g, off, h1, h2, h3⟩ := hr (by omega)
  refine ⟨g, off, h1, h2, fun j c hj => h3 j c ?_⟩
  have hjm : j < m := by have := (List.getElem?_eq_some_iff.1 hj).1; omega
  rw [List.getElem?_take_of_lt hjm] at hj
  exact hj
/-- A maker of the law's own, so many nodes and calls on. -/
structure CuD (w W : World) (k d u c : Nat) (st : St) (kc : Nat) (calls : Int) (F : Nat → Prop) : Prop where
  dg : Dg w.heap.size W k d 1048576 st kc calls F
  n : st.n ≤ u
  kc : kc ≤ c
  kp : Keeps (fun x => w.heap.size ≤ x) w W
section
variable {w W W' : World} {k d u c : Nat} {st st' : St} {kc kc' : Nat} {calls calls' : Int} {F F' : Nat → Prop}
theorem CuD.to (h : CuD w W k d u c st kc calls F) {n a : Nat} (t : DgTo w.heap.size W k d 1048576 st kc F n a st' kc' calls' F' W') : CuD w W' k d (u + n) (c + a) st' kc' calls' F' :=
  ⟨t.dg, by have := t.hn; have := h.n; omega, by have := t.hc; have := h.kc; omega, h.kp.trans_new t.mv.keeps (fun x hx hF => h.dg.fw x hF)⟩
theorem CuD.more (h : CuD w W k d u c st kc calls F) {u' c' : Nat} (hu : u ≤ u') (hc : c ≤ c') : CuD w W k d u' c' st kc calls F := ⟨h.dg, Nat.le_trans h.n hu, Nat.le_trans h.kc hc, h.kp⟩
theorem CuD.quiet (h : CuD w W k d u c st kc calls F) (hk : Keeps (fun _ => False) W W') : CuD w W' k d u c st kc calls F := h.to ((DgTo.refl h.dg).quiet hk)
theorem CuD.below (h : CuD w W k d u c st kc calls F) : Below w.heap.size w W := h.kp.below (Nat.le_refl _) (fun x hx hs => by omega)
theorem CuD.at_ (h : CuD w W k d u c st kc calls F) (hk6 : k ≤ 6) (hu : u ≤ 100000) {f : Int} {S : (Nat → Bool) → Bool} (hN : Num st f S) {X : Nat} (hX : X < 64) :
    Calls Try.prog 16 #[.pointer (some ⟨d, 0, none⟩), .int .i64 f, .int .u64 X] W fun e W' => e = .returned (.bool (S (βN X))) ∧ Hid (Keeps (fun _ => False) W W') := by
  have h1 := h.n
  have h2 := isN_iff.1 hN.is
  refine (bat_spec h.dg.bd (by omega) (by omega) f (by omega) (by omega) X (by omega)).mono ?_
  rintro e W' ⟨rfl, hb⟩
  refine ⟨?_, Keeps.of_below hb (Nat.le_refl _)⟩
  rw [hN.is, Bool.true_and]
  exact congrArg (fun b => Ending.returned (.bool b)) (hN.ev _)
end
set_option maxRecDepth 100000 in
set_option maxHeartbeats 6400000 in
theorem cubesDiagrams_core (w : World) (X : Nat) (hX : X < 18446744073709551616) (ao : Option Addr) (n0 cap : Nat) (L0 : List (List Int)) (hL0 : L0.length = n0) (hR0 : ReadsII w (.slice ao n0 cap) L0) (hN0 : NumsIn L0) (hcap0 : n0 ≤ cap) (hcapm : cap ≤ 9223372036854775807) :
    Calls Try.prog 4 #[.int .u64 X, .slice ao n0 cap] w fun e w' => e = .returned (.bool true) ∧ Below w.heap.size w w' := by
  obtain ⟨k, hk⟩ : ∃ k, X % 7 = k := ⟨_, rfl⟩
  have hk6 : k ≤ 6 := by omega
  obtain ⟨m, hm⟩ : ∃ m, 2 ^ k = m := ⟨_, rfl⟩
  have hm64 : m ≤ 64 := by rw [← hm]; exact Nat.le_trans (Nat.pow_le_pow_right (by omega) hk6) (by decide)
  have hpw : IntKind.i64.wrap ((2 : Int) ^ k) = (m : Int) := by
    have e : ((2 : Int) ^ k) = ((2 ^ k : Nat) : Int) := by simp
    rw [e, hm]
    exact IntWalk.i64_in _ (by omega)
  obtain ⟨n, hn⟩ : ∃ n, min n0 8 = n := ⟨_, rfl⟩
  have hn8 : n ≤ 8 := by omega
  have hcap : n ≤ cap := by omega
  have hnI : min (n0 : Int) 8 = (n : Int) := by omega
  have hnI2 : (n : Int) ≤ (cap : Int) := by omega
  obtain ⟨L, hLd⟩ : ∃ L, L0.take n = L := ⟨_, rfl⟩
  have hL : L.length = n := by rw [← hLd, List.length_take]; omega
  have hR : ReadsII w (.slice ao n cap) L := by rw [← hLd]; exact hR0.take hL0 (by omega)
  have hN : NumsIn L := fun c hc => hN0 c (by rw [← hLd] at hc; exact List.mem_of_mem_take hc)
  have HM : Hid (Calls Try.prog 6 #[.int .u64 X] w fun e W' => e = .returned (.int .i64 (k : Int)) ∧ w = W') := by
    have e := many_spec w X hX
    rw [hk] at e
    exact e
  have HN1 : Hid (Calls Try.prog 7 #[.int .i64 (k : Int), .int .i64 1048576] w fun e W' => ∃ db Fp, e = .returned (.pointer (some ⟨db, 0, none⟩)) ∧ Hid (Bd W' db k 1048576 st0 0 Fp ∧ Keeps (fun _ => False) w W' ∧ ∀ x, Fp x → w.heap.size ≤ x)) := bnew_spec w k 1048576 k 1048576 (by omega) (by omega) rfl ⟨by omega, rfl⟩
  have HLV := Lib.hid lives38_any
  have HL := Lib.hid hL
  have HR := Lib.hid hR
  have HX := Lib.hid hN
  have HTK : Hid (L.take n = L) := by show _ = _; rw [← hL, List.take_length]
  clear hL hR hN hR0 hN0 hL0 hLd hX hk hm hn
  go_enter Try.func4, Try.ntmps4
  go_wp2_with fail
  refine HM.out.mono ?_
  rintro e w' ⟨rfl, rfl⟩
  clear HM
  go_wp2_with fail
  refine HN1.out.mono ?_
  rintro e w1 ⟨db, Fd, rfl, hd⟩
  clear HN1
  have HS : Hid (CuD w w1 k db 0 0 st0 0 0 Fd) := by
    have n0 : st0.n = 0 := rfl
    refine ⟨⟨hd.out.1, ⟨wf0 k, ?_, fun e => by cases e⟩, by omega, by omega, hd.out.2.2⟩, by omega, Nat.le_refl _, hd.out.2.1.mono (fun _ _ x => x.elim)⟩
    show ((0 : Nat) : Int) ≤ 1048576
    omega
  clear hd
  go_wp2_with fail
  go_loopg [7, 30] n (fun gg a t wx => ∃ (i : Nat) (st : St) (kc : Nat) (calls : Int) (F : Nat → Prop), i ≤ n ∧ gg = n - i ∧ a = .bool (allC k (L.take i)) ∧ t = .int .i64 i ∧ Hid (CuD w wx k db (i * 1158) (i * 24) st kc calls F))
  case atStart => exact ⟨0, _, _, _, _, Nat.zero_le _, rfl, rfl, rfl, HS⟩
  case round =>
    clear HS
    obtain ⟨i, st, kc, calls, F, hi, rfl, rfl, rfl, HI⟩ := hrel
    by_cases hlt : i < n
    · have hiI : (i : Int) < (n : Int) := by omega
      have hwi : IntKind.i64.wrap ((i : Int) + 1) = (i : Int) + 1 := IntWalk.i64_in _ (by omega)
      obtain ⟨c, hx⟩ : ∃ x, L[i]? = some x := ⟨_, List.getElem?_eq_getElem (by have := HL.out; omega)⟩
      obtain ⟨g, off, v, rfl, hic, c0, hrd⟩ := HR.out.row HI.out.kp HI.out.dg.fw hx
      have hmem := List.mem_of_getElem? hx
      have HXC := Lib.hid (HX.out c hmem)
      have hnn := HI.out.n
      have hkk := HI.out.kc
      have HDI := Lib.hid (cdiagram_any hk6 HI.out.dg HI.out.kp.size hrd HXC.out.1 (by omega) (by omega))
      have HAL : Hid (allC k (L.take (i + 1)) = (allC k (L.take i) && rightC k c)) := allC_take hx
      have HRD := Lib.hid hrd
      obtain ⟨o, ho⟩ : ∃ o, rightC k c = o := ⟨_, rfl⟩
      obtain ⟨al, hal⟩ : ∃ o, allC k (L.take i) = o := ⟨_, rfl⟩
      rw [ho] at HDI HAL
      rw [hal] at HAL ⊢
      have HO := Lib.hid ho
      clear hx hrd hmem hnn hkk ho hal
      go_wp2_with fail
      refine HDI.out.mono ?_
      rintro e w2 ⟨r2, st2, kc2, calls2, F2, rfl, h2⟩
      have HI2 : Hid (CuD w w2 k db ((i + 1) * 1158) ((i + 1) * 24) st2 kc2 calls2 F2) := (HI.out.to h2.out.1).more (by omega) (by omega)
      have HN2 := Lib.hid h2.out.2
      have HRD2 := Lib.hid (HRD.out.mv h2.out.1.mv)
      have HRT := Lib.hid (lright38_spec (vars := (k : Int)) (by omega) (by omega) HRD2.out.reads)
      rw [HO.out] at HRT
      clear HDI HI h2 HRD c0
      cases o with
      | true =>
        have HNS : Hid (Num st2 r2 (fun β => isB β 0 c)) := HN2.out.1 rfl
        have HAL2 : Hid (allC k (L.take (i + 1)) = al) := by show _ = _; rw [HAL.out, Bool.and_true]
        clear HN2 HAL
        have hIS : Hid (∀ (W : World) (x : Nat), x < 64 → RdF W F2 v c → Calls Try.prog 17 #[v, .int .i64 x] W fun e W' => e = .returned (.bool (isB (βN x) 0 c)) ∧ W = W') := fun W x hx h => lis_spec hx h.reads HXC.out.2
        cases al
        all_goals
          go_wp2_with (go_at_call 11; refine HRT.out.mono ?_; rintro e wA ⟨rfl, rfl⟩)
          go_loopg [59] m (fun gg t wx => ∃ x : Nat, x ≤ m ∧ gg = m - x ∧ t = .int .i64 x ∧ Hid (Keeps (fun _ => False) w2 wx))
          case atStart => exact ⟨0, Nat.zero_le _, rfl, rfl, Keeps.refl _ _⟩
          case round =>
            obtain ⟨x, hx, rfl, rfl, HK⟩ := hrel
            by_cases hlt2 : x < m
            · have hxI : (x : Int) < (m : Int) := by omega
              have hwx : IntKind.i64.wrap ((x : Int) + 1) = (x : Int) + 1 := IntWalk.i64_in _ (by omega)
              have hwu : IntKind.u64.wrap (x : Int) = (x : Int) := IntWalk.u64_in _ (by omega)
              have HIW := Lib.hid (HI2.out.quiet HK.out)
              have HAT := Lib.hid (HIW.out.at_ hk6 (by omega) HNS.out (X := x) (by omega))
              obtain ⟨y, hy⟩ : ∃ y, isB (βN x) 0 c = y := ⟨_, rfl⟩
              rw [hy] at HAT
              have HY := Lib.hid hy
              clear hy HIW
              go_wp2_with fail
              refine HAT.out.mono ?_
              rintro e w3 ⟨rfl, h3⟩
              have HK3 : Hid (Keeps (fun _ => False) w2 w3) := HK.out.trans h3.out
              have HISx := Lib.hid (hIS.out w3 x (by omega) (HRD2.out.mv (Mv.quiet HK3.out)))
              rw [HY.out] at HISx
              clear HAT h3 HK HY
              cases y
              all_goals
                go_wp2_with (go_at_call 17; refine HISx.out.mono ?_; rintro e wB ⟨rfl, rfl⟩)
                go_roundg (m - (x + 1))
                case measure => omega
                case rel => exact ⟨x + 1, by omega, rfl, by go_num, HK3⟩
            · have hxm : x = m := by omega
              have hxI : ¬ (x : Int) < (m : Int) := by omega
              have HN := Lib.hid (HI2.out.quiet HK.out)
              clear HK hxm HI2
              go_wp2_with fail
              go_roundg (n - (i + 1))
              case measure => omega
              case rel => exact ⟨i + 1, st2, kc2, calls2, F2, by omega, rfl, by rw [HAL2.out], by go_num, HN⟩
      | false =>
        have hr2 : r2 = 0 := HN2.out.2 rfl
        subst hr2
        have HAL2 : Hid (allC k (L.take (i + 1)) = false) := by show _ = _; rw [HAL.out, Bool.and_false]
        clear HN2 HAL
        cases al
        all_goals
          go_wp2_with (go_at_call 11; refine HRT.out.mono ?_; rintro e wA ⟨rfl, rfl⟩)
          go_loopg [59] m (fun gg t wx => ∃ x : Nat, x ≤ m ∧ gg = m - x ∧ t = .int .i64 x ∧ wx = w2)
          case atStart => exact ⟨0, Nat.zero_le _, rfl, rfl, rfl⟩
          case round =>
            obtain ⟨x, hx, rfl, rfl, rfl⟩ := hrel
            by_cases hlt2 : x < m
            · have hxI : (x : Int) < (m : Int) := by omega
              have hwx : IntKind.i64.wrap ((x : Int) + 1) = (x : Int) + 1 := IntWalk.i64_in _ (by omega)
              go_wp2_with fail
              go_roundg (m - (x + 1))
              case measure => omega
              case rel => exact ⟨x + 1, by omega, rfl, by go_num, rfl⟩
            · have hxm : x = m := by omega
              have hxI : ¬ (x : Int) < (m : Int) := by omega
              clear hxm
              go_wp2_with fail
              go_roundg (n - (i + 1))
              case measure => omega
              case rel => exact ⟨i + 1, st2, kc2, calls2, F2, by omega, rfl, by rw [HAL2.out], by go_num, HI2⟩
    · obtain rfl : i = n := by omega
      have hiI : ¬ (i : Int) < (i : Int) := by omega
      have hnn := HI.out.n
      have hkk := HI.out.kc
      have HU := Lib.hid (cunion_spec hk6 HI.out.dg HI.out.kp HL.out HR.out HX.out hn8 (by omega) (by omega))
      obtain ⟨o, ho⟩ : ∃ o, allC k L = o := ⟨_, rfl⟩
      rw [HTK.out, ho]
      rw [ho] at HU
      clear hnn hkk ho
      go_wp2_with fail
      refine HU.out.mono ?_
      rintro e w2 ⟨r2, st2, kc2, calls2, F2, rfl, h2⟩
      have HI2 : Hid (CuD w w2 k db 30000 1000 st2 kc2 calls2 F2) := (HI.out.to h2.out.1).more (by omega) (by omega)
      have HN2 := Lib.hid h2.out.2
      clear HU HI h2
      cases o with
      | true =>
        have HNS : Hid (Num st2 r2 (fun β => anyB β L)) := HN2.out.1 rfl
        clear HN2
        go_wp2_with fail
        go_loopg [95] m (fun gg t wx => ∃ x : Nat, x ≤ m ∧ gg = m - x ∧ t = .int .i64 x ∧ Hid (Keeps (fun _ => False) w2 wx))
        case atStart => exact ⟨0, Nat.zero_le _, rfl, rfl, Keeps.refl _ _⟩
        case round =>
          obtain ⟨x, hx, rfl, rfl, HK⟩ := hrel
          by_cases hlt2 : x < m
          · have hxI : (x : Int) < (m : Int) := by omega
            have hwx : IntKind.i64.wrap ((x : Int) + 1) = (x : Int) + 1 := IntWalk.i64_in _ (by omega)
            have hwu : IntKind.u64.wrap (x : Int) = (x : Int) := IntWalk.u64_in _ (by omega)
            have HIW := Lib.hid (HI2.out.quiet HK.out)
            go_wp2_with fail
            go_loopg [16, 100] i (fun gg s t wx => ∃ (q : Nat) (y : Bool), q ≤ i ∧ gg = i - q ∧ s = .bool y ∧ t = .int .i64 q ∧ Hid (anyB (βN x) (L.take q) = y) ∧ wx = wr)
            case atStart => exact ⟨0, false, Nat.zero_le _, rfl, rfl, rfl, by show _ = _; rfl, rfl⟩
            case round =>
              obtain ⟨q, y, hq, rfl, rfl, rfl, HJ, rfl⟩ := hrel
              by_cases hlt3 : q < i
              · have hqI : (q : Int) < (i : Int) := by omega
                have hwq : IntKind.i64.wrap ((q : Int) + 1) = (q : Int) + 1 := IntWalk.i64_in _ (by omega)
                obtain ⟨c, hcx⟩ : ∃ x, L[q]? = some x := ⟨_, List.getElem?_eq_getElem (by have := HL.out; omega)⟩
                obtain ⟨g, off, v, rfl, hic, c0, hrd⟩ := HR.out.row HIW.out.kp HIW.out.dg.fw hcx
                have HISx := Lib.hid (lis_spec (X := x) (by omega) hrd.reads (HX.out c (List.mem_of_getElem? hcx)).2)
                have HT := Lib.hid (anyB_take (β := βN x) hcx)
                obtain ⟨y2, hy2⟩ : ∃ y, isB (βN x) 0 c = y := ⟨_, rfl⟩
                rw [hy2, HJ.out] at HT
                rw [hy2] at HISx
                clear hcx hrd hy2 HJ
                cases y with
                | true =>
                  have HN : Hid (anyB (βN x) (L.take (q + 1)) = true) := by rw [HT.out]; exact rfl
                  clear HT HISx
                  go_wp2_with fail
                  go_roundg (i - (q + 1))
                  case measure => omega
                  case rel => exact ⟨q + 1, true, by omega, rfl, rfl, by go_num, HN, rfl⟩
                | false =>
                  have HN : Hid (anyB (βN x) (L.take (q + 1)) = y2) := by rw [HT.out]; show (false || y2) = y2; cases y2 <;> rfl
                  clear HT
                  go_wp2_with (go_at_call 17; refine HISx.out.mono ?_; rintro e wB ⟨rfl, rfl⟩)
                  clear HISx
                  go_roundg (i - (q + 1))
                  case measure => omega
                  case rel => exact ⟨q + 1, y2, by omega, rfl, rfl, by go_num, HN, rfl⟩
              · have hqi : q = i := by omega
                have hqI : ¬ (q : Int) < (i : Int) := by omega
                have HY : Hid (anyB (βN x) L = y) := by rw [← HTK.out, ← hqi]; exact HJ
                have HAT := Lib.hid (HIW.out.at_ hk6 (by omega) HNS.out (X := x) (by omega))
                rw [HY.out] at HAT
                clear HY HJ HIW hqi
                go_wp2_with fail
                refine HAT.out.mono ?_
                rintro e w3 ⟨rfl, h3⟩
                have HK3 : Hid (Keeps (fun _ => False) w2 w3) := HK.out.trans h3.out
                clear HAT HK h3
                cases y
                all_goals
                  go_wp2_with fail
                  go_roundg (m - (x + 1))
                  case measure => omega
                  case rel => exact ⟨x + 1, by omega, rfl, by go_num, HK3⟩
          · have hxm : x = m := by omega
            have hxI : ¬ (x : Int) < (m : Int) := by omega
            have HBW := Lib.hid (HI2.out.quiet HK.out).below
            have HLI := Lib.hid (HLV.out wr)
            clear HK hxm HI2 HLV
            go_wp2_with (go_at_call 15; refine HLI.out.mono ?_; rintro e wA ⟨rfl, hA⟩)
            have HP : Hid (Below w.heap.size w wA) := HBW.out.trans (hA.mono HBW.out.size)
            clear HLI HBW hA
            go_ret
            exact ⟨rfl, HP⟩
      | false =>
        have hr2 : r2 = 0 := HN2.out.2 rfl
        subst hr2
        clear HN2
        go_wp2_with fail
        go_loopg [95] m (fun gg t wx => ∃ x : Nat, x ≤ m ∧ gg = m - x ∧ t = .int .i64 x ∧ Hid (Keeps (fun _ => False) w2 wx))
        case atStart => exact ⟨0, Nat.zero_le _, rfl, rfl, Keeps.refl _ _⟩
        case round =>
          obtain ⟨x, hx, rfl, rfl, HK⟩ := hrel
          by_cases hlt2 : x < m
          · have hxI : (x : Int) < (m : Int) := by omega
            have hwx : IntKind.i64.wrap ((x : Int) + 1) = (x : Int) + 1 := IntWalk.i64_in _ (by omega)
            have hwu : IntKind.u64.wrap (x : Int) = (x : Int) := IntWalk.u64_in _ (by omega)
            have HIW := Lib.hid (HI2.out.quiet HK.out)
            go_wp2_with fail
            go_loopg [16, 100] i (fun gg s t wx => ∃ (q : Nat) (y : Bool), q ≤ i ∧ gg = i - q ∧ s = .bool y ∧ t = .int .i64 q ∧ Hid (anyB (βN x) (L.take q) = y) ∧ wx = wr)
            case atStart => exact ⟨0, false, Nat.zero_le _, rfl, rfl, rfl, by show _ = _; rfl, rfl⟩
            case round =>
              obtain ⟨q, y, hq, rfl, rfl, rfl, HJ, rfl⟩ := hrel
              by_cases hlt3 : q < i
              · have hqI : (q : Int) < (i : Int) := by omega
                have hwq : IntKind.i64.wrap ((q : Int) + 1) = (q : Int) + 1 := IntWalk.i64_in _ (by omega)
                obtain ⟨c, hcx⟩ : ∃ x, L[q]? = some x := ⟨_, List.getElem?_eq_getElem (by have := HL.out; omega)⟩
                obtain ⟨g, off, v, rfl, hic, c0, hrd⟩ := HR.out.row HIW.out.kp HIW.out.dg.fw hcx
                have HISx := Lib.hid (lis_spec (X := x) (by omega) hrd.reads (HX.out c (List.mem_of_getElem? hcx)).2)
                have HT := Lib.hid (anyB_take (β := βN x) hcx)
                obtain ⟨y2, hy2⟩ : ∃ y, isB (βN x) 0 c = y := ⟨_, rfl⟩
                rw [hy2, HJ.out] at HT
                rw [hy2] at HISx
                clear hcx hrd hy2 HJ
                cases y with
                | true =>
                  have HN : Hid (anyB (βN x) (L.take (q + 1)) = true) := by rw [HT.out]; exact rfl
                  clear HT HISx
                  go_wp2_with fail
                  go_roundg (i - (q + 1))
                  case measure => omega
                  case rel => exact ⟨q + 1, true, by omega, rfl, rfl, by go_num, HN, rfl⟩
                | false =>
                  have HN : Hid (anyB (βN x) (L.take (q + 1)) = y2) := by rw [HT.out]; show (false || y2) = y2; cases y2 <;> rfl
                  clear HT
                  go_wp2_with (go_at_call 17; refine HISx.out.mono ?_; rintro e wB ⟨rfl, rfl⟩)
                  clear HISx
                  go_roundg (i - (q + 1))
                  case measure => omega
                  case rel => exact ⟨q + 1, y2, by omega, rfl, rfl, by go_num, HN, rfl⟩
              · have hqi : q = i := by omega
                have hqI : ¬ (q : Int) < (i : Int) := by omega
                clear HJ HIW hqi
                go_wp2_with fail
                go_roundg (m - (x + 1))
                case measure => omega
                case rel => exact ⟨x + 1, by omega, rfl, by go_num, HK⟩
          · have hxm : x = m := by omega
            have hxI : ¬ (x : Int) < (m : Int) := by omega
            have HBW := Lib.hid (HI2.out.quiet HK.out).below
            have HLI := Lib.hid (HLV.out wr)
            clear HK hxm HI2 HLV
            go_wp2_with (go_at_call 15; refine HLI.out.mono ?_; rintro e wA ⟨rfl, hA⟩)
            have HP : Hid (Below w.heap.size w wA) := HBW.out.trans (hA.mono HBW.out.size)
            clear HLI HBW hA
            go_ret
            exact ⟨rfl, HP⟩
theorem cubesDiagrams_walk (w : World) (x : Int) (hx0 : 0 ≤ x) (hx1 : x ≤ 18446744073709551615) (ao : Option Addr) (n cap : Nat) (L : List (List Int)) (hL : L.length = n) (hR : ReadsII w (.slice ao n cap) L) (hN : NumsIn L) (hc : n ≤ cap) (hm : cap ≤ 9223372036854775807) :
    Calls Try.prog 4 #[.int .u64 x, .slice ao n cap] w fun e w' => e = .returned (.bool true) ∧ Below w.heap.size w w' := by
  obtain ⟨X, rfl⟩ := Int.eq_ofNat_of_zero_le hx0
  exact cubesDiagrams_core w X (by omega) ao n cap L hL hR hN hc hm
end Go.Proofs.Ytloidoekmicloaa
