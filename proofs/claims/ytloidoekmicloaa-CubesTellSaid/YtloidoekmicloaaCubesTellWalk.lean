/-
  The walk of the law CubesTell.
-/
import Derived.Test.YtloidoekmicloaaCubeRead
import Derived.Test.YtloidoekmicloaaCubeLives
import Derived.Test.YtloidoekmicloaaCubeSame
import Derived.Test.YtloidoekmicloaaOrdInts
set_option linter.unusedVariables false
set_option linter.unusedSimpArgs false
set_option linter.unnecessarySimpa false
namespace Go.Proofs.Ytloidoekmicloaa
open Go.ChangeShapes Go.WideShapes Go.ChangeAt Go.RowKit Go.Deep NodePlain
theorem IsRow.intsW {w : World} {ao : Option Addr} {n cap : Nat} {G : Nat → Nat → Value} (R : IsRow w [.int .i64] ao n cap G) {m : Nat} (hm : m ≤ n) : ∃ l : List Int, l.length = m ∧ ReadsI w (.slice ao m cap) l ∧ ∀ x, x ∈ l → -9223372036854775808 ≤ x ∧ x ≤ 9223372036854775807 := by
  obtain ⟨l, h1, h2⟩ := R.intsTo hm
  refine ⟨l, h1, h2, fun x hx => ?_⟩
  obtain ⟨i, hi⟩ := List.getElem?_of_mem hx
  have hil := (List.getElem?_eq_some_iff.1 hi).1
  obtain ⟨b, off, e1, _, h3⟩ := R.at_ (show 0 < n by omega)
  obtain ⟨ao', cap', hv, _, hr⟩ := h2
  simp only [Value.slice.injEq] at hv
  obtain ⟨rfl, _, _⟩ := hv
  obtain ⟨g, o2, e2, _, h4⟩ := hr (by omega)
  rw [e1] at e2
  simp only [Option.some.injEq, Addr.mk.injEq, and_true] at e2
  obtain ⟨rfl, rfl⟩ := e2
  have q1 := h4 i x hi
  have q2 := h3 i 0 (by omega) (by decide)
  have q3 : w.cell? ⟨b, off + i, none⟩ = some (G i 0) := by simpa using q2
  rw [q1] at q3
  obtain ⟨z, e3, hw⟩ := R.ok i 0 _ (by omega) rfl
  rw [e3] at q3
  simp only [Option.some.injEq, Value.int.injEq, true_and] at q3
  subst q3
  simp only [Lit.wf, Bool.and_eq_true, decide_eq_true_eq] at hw
  have e1 : IntKind.i64.min = -9223372036854775808 := rfl
  have e2 : IntKind.i64.max = 9223372036854775807 := rfl
  rw [e1, e2] at hw
  exact hw
/-- What the law's own text is of so many numbers. -/
def rawC (x : Int) : List UInt8 := if x = -1 then [45] else if x = 0 then [48] else if x = 1 then [49] else []
def rawT (l : List Int) : List UInt8 := l.flatMap rawC
theorem rawT_take {l : List Int} {i : Nat} {x : Int} (h : l[i]? = some x) : rawT (l.take (i + 1)) = rawT (l.take i) ++ rawC x := by
  unfold rawT
  rw [List.take_add_one, h, List.flatMap_append]
  simp
theorem rawT_right {l : List Int} (h : ∀ x, x ∈ l → x = 0 ∨ x = 1 ∨ x = -1) : rawT l = txtC l := by
  induction l with
  | nil => rfl
  | cons x l ih =>
    have h1 := ih fun y hy => h y (List.mem_cons_of_mem _ hy)
    show rawC x ++ rawT l = chC x :: txtC l
    rw [h1]
    rcases h x List.mem_cons_self with rfl | rfl | rfl <;> rfl
theorem rawT_len (l : List Int) : (rawT l).length ≤ l.length := by
  induction l with
  | nil => exact Nat.le_refl _
  | cons x l ih =>
    show (rawC x ++ rawT l).length ≤ l.length + 1
    rw [List.length_append]
    have : (rawC x).length ≤ 1 := by unfold rawC; repeat (first | split | simp)
    omega
/-- Is what two rows tell the same at the first so many places, or does the second tell nothing? -/
def insT (a b : List Int) (j : Nat) : Bool := (List.range j).all fun i => decide (b.getD i 0 = -1 ∨ b.getD i 0 = a.getD i 0)
theorem insT_succ {a b : List Int} {j : Nat} {x y : Int} (ha : a[j]? = some x) (hb : b[j]? = some y) : insT a b (j + 1) = (insT a b j && decide (y = -1 ∨ y = x)) := by
  unfold insT
  rw [List.range_succ, List.all_append]
  simp [List.getD_eq_getElem?_getD, ha, hb]
theorem insT_out {a b : List Int} {j n : Nat} {x y : Int} (hjn : j < n) (ha : a[j]? = some x) (hb : b[j]? = some y) (h : ¬ (y = -1 ∨ y = x)) : insT a b n = false := by
  cases e : insT a b n with
  | false => rfl
  | true =>
    unfold insT at e
    rw [List.all_eq_true] at e
    have := e j (List.mem_range.2 hjn)
    rw [decide_eq_true_eq, List.getD_eq_getElem?_getD, List.getD_eq_getElem?_getD, ha, hb] at this
    exact absurd this h
def insB (a b : List Int) : Bool := decide (a.length = b.length) && insT a b b.length
section
variable {W : World}
set_option maxRecDepth 100000
set_option maxHeartbeats 1600000
theorem cinside_spec {u v : Value} {a b : List Int} (ha : ReadsI W u a) (hb : ReadsI W v b) (hla : a.length ≤ 1000000) (hlb : b.length ≤ 1000000) :
    Calls Try.prog 23 #[u, v] W fun e W' => e = .returned (.bool (insB a b)) ∧ W = W' := by
  obtain ⟨ao, ca, rfl, hca, hra⟩ := ha
  obtain ⟨bo, cb, rfl, hcb, hrb⟩ := hb
  obtain ⟨n, hn⟩ : ∃ n, a.length = n := ⟨_, rfl⟩
  obtain ⟨m, hm⟩ : ∃ n, b.length = n := ⟨_, rfl⟩
  obtain ⟨res, hres⟩ : ∃ r, insB a b = r := ⟨_, rfl⟩
  rw [hres]
  have hdef : insB a b = (decide (n = m) && insT a b m) := by unfold insB; rw [hn, hm]
  by_cases e : n = m
  · subst e
    have HB : Hid (insT a b n = res) := by show _ = _; rw [← hres, hdef, decide_eq_true rfl, Bool.true_and]
    rw [hn] at hca hra hla ⊢
    rw [hm] at hcb hrb hlb ⊢
    have HN := Lib.hid hn
    have HM := Lib.hid hm
    have HRA := Lib.hid hra
    have HRB := Lib.hid hrb
    clear hn hm hra hrb hres hdef
    go_enter Try.func23, Try.ntmps23
    go_wp2_with fail
    go_loopg [14] n (fun g t wy => ∃ i : Nat, i ≤ n ∧ g = n - i ∧ t = .int .i64 i ∧ Hid (insT a b i = true) ∧ wy = W)
    case atStart => exact ⟨0, Nat.zero_le _, rfl, rfl, by show _ = _; rfl, rfl⟩
    case round =>
      obtain ⟨i, hi, rfl, rfl, HH, rfl⟩ := hrel
      by_cases hlt : i < n
      · have hiI : (i : Int) < (n : Int) := by omega
        have hwi : IntKind.i64.wrap ((i : Int) + 1) = (i : Int) + 1 := IntWalk.i64_in _ (by omega)
        obtain ⟨g1, o1, rfl, _, hc1⟩ := HRA.out (by omega)
        obtain ⟨g2, o2, rfl, _, hc2⟩ := HRB.out (by omega)
        obtain ⟨x, hx⟩ : ∃ x, a[i]? = some x := ⟨_, List.getElem?_eq_getElem (by have := HN.out; omega)⟩
        obtain ⟨y, hy⟩ : ∃ x, b[i]? = some x := ⟨_, List.getElem?_eq_getElem (by have := HM.out; omega)⟩
        have c1 := hc1 i x hx
        have c2 := hc2 i y hy
        have hia : i < ca := by omega
        have hib : i < cb := by omega
        have HT := Lib.hid (insT_succ hx hy)
        have HXY := Lib.hid (And.intro hx hy)
        clear hx hy hc1 hc2
        by_cases h1 : y = -1
        · have HN2 : Hid (insT a b (i + 1) = true) := by show _ = _; rw [HT.out, HH.out, decide_eq_true (.inl h1)]; rfl
          subst h1
          clear HT HH HXY
          go_wp2_with fail
          go_roundg (n - (i + 1))
          case measure => omega
          case rel => exact ⟨i + 1, by omega, rfl, by go_num, HN2, rfl⟩
        · have h1b : (y != -1) = true := by simpa using h1
          by_cases h2 : y = x
          · have HN2 : Hid (insT a b (i + 1) = true) := by show _ = _; rw [HT.out, HH.out, decide_eq_true (.inr h2)]; rfl
            subst h2
            clear HT HH HXY h1
            go_wp2_with fail
            go_roundg (n - (i + 1))
            case measure => omega
            case rel => exact ⟨i + 1, by omega, rfl, by go_num, HN2, rfl⟩
          · have h2b : (y != x) = true := by simpa using h2
            have hr : res = false := by rw [← HB.out]; exact insT_out hlt HXY.out.1 HXY.out.2 (fun h => h.elim h1 h2)
            subst hr
            clear HT HH HXY h1 h2
            go_wp2_with fail
            go_ret
            exact ⟨rfl, rfl⟩
      · obtain rfl : i = n := by omega
        have hiI : ¬ (i : Int) < (i : Int) := by omega
        have hr : res = true := by rw [← HB.out]; exact HH.out
        subst hr
        clear HH
        go_wp2_with fail
        go_ret
        exact ⟨rfl, rfl⟩
  · have hr : res = false := by rw [← hres, hdef, decide_eq_false e]; rfl
    subst hr
    rw [hn, hm]
    have eI : ¬ (n : Int) = (m : Int) := by omega
    have eb : ((n : Int) != (m : Int)) = true := by simpa using eI
    clear hres hdef hra hrb hn hm e eI
    go_enter Try.func23, Try.ntmps23
    go_wp2_with fail
    go_ret
    exact ⟨rfl, rfl⟩
end
set_option maxRecDepth 100000 in
set_option maxHeartbeats 6400000 in
theorem cubesTell_walk (w : World) (ao : Option Addr) (na capa : Nat) (Ga : Nat → Nat → Value) (Ra : IsRow w [.int .i64] ao na capa Ga) (bo : Option Addr) (nb capb : Nat) (Gb : Nat → Nat → Value) (Rb : IsRow w [.int .i64] bo nb capb Gb) (s : ByteArray) (hs : s.size ≤ maxLen) :
    Calls Try.prog 5 #[.slice ao na capa, .slice bo nb capb, .string s] w fun e w' => e = .returned (.bool true) ∧ Below w.heap.size w w' := by
  obtain ⟨n, hn⟩ : ∃ n, n = min na 70 := ⟨_, rfl⟩
  obtain ⟨m, hm⟩ : ∃ m, m = min nb 70 := ⟨_, rfl⟩
  obtain ⟨q, hq⟩ : ∃ m, m = min s.size 70 := ⟨_, rfl⟩
  have hnI : min (na : Int) 70 = (n : Int) := by omega
  have hmI : min (nb : Int) 70 = (m : Int) := by omega
  have hqI : min (s.size : Int) 70 = (q : Int) := by omega
  have hna : n ≤ na := by omega
  have hmb : m ≤ nb := by omega
  have hqs : q ≤ s.size := by omega
  have hqsI : (q : Int) ≤ (s.size : Int) := by omega
  have hla := Ra.le
  have hlb := Rb.le
  have hn70 : n ≤ 70 := by omega
  have hm70 : m ≤ 70 := by omega
  have hq70 : q ≤ 70 := by omega
  clear hn hm hq
  have hkey : ∀ t : ByteArray, ∃ l : List UInt8, t = ⟨l.toArray⟩ := fun ⟨d⟩ => ⟨d.toList, by simp⟩
  obtain ⟨l, hl⟩ := hkey (s.extract 0 q)
  clear hkey
  have hll : l.length = q := by
    have h1 : (s.extract 0 q).size = l.length := by rw [hl]; simp [ByteArray.size]
    rw [← h1, ByteArray.size_extract]
    omega
  have HL := Lib.hid hl
  have HLL := Lib.hid hll
  clear hl hll
  go_enter Try.func5, Try.ntmps5
  go_upto_region 1 with fail
  go_cut [0, 1, 2] (fun a b c wx => a = .slice ao n capa ∧ b = .slice bo m capb ∧ c = .string (s.extract 0 q) ∧ ∃ nq, wx = w.drewN nq)
  case first =>
    go_quiet (fail)
    go_wp2_with fail
    all_goals (go_meet; refine ⟨?_, ?_, ?_, _, rfl⟩ <;> (first | rfl | (simp only [Value.slice.injEq, true_and, and_true]; omega)))
  case rest =>
    obtain ⟨rfl, rfl, rfl, nq, rfl⟩ := hcut
    obtain ⟨la, hla1, hra0, hva⟩ := Ra.intsW hna
    obtain ⟨lb, hlb1, hrb0, hvb⟩ := Rb.intsW hmb
    have hk1 : Keeps (fun _ => False) w (w.drewN nq) := (Keeps.refl _ _).drewN nq
    have HRA := Lib.hid (hra0.keeps hk1)
    have HRB := Lib.hid (hrb0.keeps hk1)
    have HK1 := Lib.hid hk1
    have HVA := Lib.hid hva
    have HVB := Lib.hid hvb
    have HLA := Lib.hid hla1
    have HLB := Lib.hid hlb1
    rw [HL.out]
    have hnc : n ≤ capa := by omega
    have hmc : m ≤ capb := by omega
    clear HL hra0 hrb0 hva hvb hla1 hlb1 hk1 Ra Rb hnI hmI hqI hna hmb hqs hqsI hs
    generalize w.drewN nq = w1 at *
    clear hla hlb
    go_wp2_with fail
    go_loopg [7, 8, 35] n (fun g x y t wy => ∃ i : Nat, i ≤ n ∧ g = n - i ∧ x = .string ⟨(rawT (la.take i)).toArray⟩ ∧ y = .int .i64 (litsC (la.take i)) ∧ t = .int .i64 i ∧ wy = w1)
    case atStart => exact ⟨0, Nat.zero_le _, rfl, rfl, rfl, rfl, rfl⟩
    case round =>
      obtain ⟨i, hi, rfl, rfl, rfl, rfl, rfl⟩ := hrel
      by_cases hlt : i < n
      · have hiI : (i : Int) < (n : Int) := by omega
        have hwi : IntKind.i64.wrap ((i : Int) + 1) = (i : Int) + 1 := IntWalk.i64_in _ (by omega)
        obtain ⟨ao', ca', hv', _, hrd⟩ := HRA.out
        simp only [Value.slice.injEq] at hv'
        obtain ⟨rfl, hk', rfl⟩ := hv'
        clear hk'
        obtain ⟨g1, o1, rfl, _, hc1⟩ := hrd (by have := HLA.out; omega)
        obtain ⟨x, hx⟩ : ∃ x, la[i]? = some x := ⟨_, List.getElem?_eq_getElem (by have := HLA.out; omega)⟩
        have c1 := hc1 i x hx
        have hia : i < capa := by omega
        have HT := Lib.hid (rawT_take hx)
        have HC := Lib.hid (litsC_take hx)
        have hlr : (rawT (la.take i)).length ≤ 70 := by have := rawT_len (la.take i); rw [List.length_take] at this; omega
        have hlc : litsC (la.take i) ≤ 70 := by have := litsC_le (la.take i); rw [List.length_take] at this; omega
        obtain ⟨R, hR⟩ : ∃ R, rawT (la.take i) = R := ⟨_, rfl⟩
        obtain ⟨C, hC⟩ : ∃ R, litsC (la.take i) = R := ⟨_, rfl⟩
        rw [hR] at HT hlr ⊢
        rw [hC] at HC hlc ⊢
        have hwC : IntKind.i64.wrap ((C : Int) + 1) = ((C + 1 : Nat) : Int) := by rw [IntWalk.i64_in _ (by omega)]; rfl
        clear hx hc1 hrd hR hC
        by_cases h1 : x = -1
        · subst h1
          have HN : Hid (rawT (la.take (i + 1)) = R ++ [45] ∧ litsC (la.take (i + 1)) = C) := ⟨HT.out, HC.out⟩
          clear HT HC
          go_wp2_with fail
          go_roundg (n - (i + 1))
          case measure => omega
          case rel => exact ⟨i + 1, by omega, rfl, by rw [HN.out.1, ← app_sign], by rw [HN.out.2], by go_num, rfl⟩
        · by_cases h2 : x = 0
          · subst h2
            have HN : Hid (rawT (la.take (i + 1)) = R ++ [48] ∧ litsC (la.take (i + 1)) = C + 1) := ⟨HT.out, HC.out⟩
            clear HT HC h1
            go_wp2_with fail
            go_roundg (n - (i + 1))
            case measure => omega
            case rel => exact ⟨i + 1, by omega, rfl, by rw [HN.out.1, ← app_sign], by rw [HN.out.2]; go_num, by go_num, rfl⟩
          · by_cases h3 : x = 1
            · subst h3
              have HN : Hid (rawT (la.take (i + 1)) = R ++ [49] ∧ litsC (la.take (i + 1)) = C + 1) := ⟨HT.out, HC.out⟩
              clear HT HC h1 h2
              go_wp2_with fail
              go_roundg (n - (i + 1))
              case measure => omega
              case rel => exact ⟨i + 1, by omega, rfl, by rw [HN.out.1, ← app_sign], by rw [HN.out.2]; go_num, by go_num, rfl⟩
            · have HN : Hid (rawT (la.take (i + 1)) = R ∧ litsC (la.take (i + 1)) = C) := by
                have e1 : rawC x = [] := by unfold rawC; rw [if_neg h1, if_neg h2, if_neg h3]
                have e2 : (if x = 0 ∨ x = 1 then 1 else 0) = 0 := if_neg (fun h => h.elim h2 h3)
                exact ⟨by rw [HT.out, e1, List.append_nil], by rw [HC.out, e2, Nat.add_zero]⟩
              have b1 : (x == -1) = false := by simpa using h1
              have b2 : (x == 0) = false := by simpa using h2
              have b3 : (x == 1) = false := by simpa using h3
              clear HT HC h1 h2 h3
              go_wp2_with fail
              go_roundg (n - (i + 1))
              case measure => omega
              case rel => exact ⟨i + 1, by omega, rfl, by rw [HN.out.1], by rw [HN.out.2], by go_num, rfl⟩
      · have hin : i = n := by omega
        have hiI : ¬ (i : Int) < (n : Int) := by omega
        have HTK : Hid (la.take i = la) := by show _ = _; rw [hin, ← HLA.out, List.take_length]
        rw [HTK.out]
        clear hin HTK
        have hr1 := lright38_spec (vars := (n : Int)) (by omega) (by omega) HRA.out
        obtain ⟨ok, hok⟩ : ∃ o, rightC (n : Int) la = o := ⟨_, rfl⟩
        rw [hok] at hr1
        have HR1 := Lib.hid hr1
        have HOK := Lib.hid hok
        have HPT : Hid ((ok = true → rawT la = printC la ∧ readC (printC la) = la ∧ textB (printC la) = true) ∧ (ok = false → printC la = [])) := by
          have hpr : printC la = if ok then txtC la else [] := by unfold printC; rw [HLA.out, hok]
          constructor
          · rintro rfl
            have h3 := (rightC_iff.1 hok).2.2.2
            rw [if_pos rfl] at hpr
            have h4 := read_print (c := la) (by rw [HLA.out]; exact hok)
            rw [hpr]
            exact ⟨rawT_right h3, h4.1, h4.2⟩
          · rintro rfl
            rw [hpr]; rfl
        clear hr1 hok
        obtain ⟨P, hP⟩ : ∃ P, printC la = P := ⟨_, rfl⟩
        obtain ⟨T, hT⟩ : ∃ T, rawT la = T := ⟨_, rfl⟩
        rw [hP, hT] at HPT
        rw [hT]
        have HPR := Lib.hid hP
        clear hP hT
        obtain ⟨o2, ho2⟩ : ∃ o, rightC (m : Int) la = o := ⟨_, rfl⟩
        have HO2 := Lib.hid ho2
        clear ho2
        have hfacts : ∃ (hw : textB P = true), (ok = true → readC P = la) ∧ (ok = true → T = P) ∧ (ok = false → P = []) := by
          cases ok with
          | true =>
            obtain ⟨h1, h2, h3⟩ := HPT.out.1 rfl
            exact ⟨h3, fun _ => h2, fun _ => h1, fun h => (by cases h)⟩
          | false =>
            have h1 := HPT.out.2 rfl
            exact ⟨by rw [h1]; rfl, fun h => (by cases h), fun h => (by cases h), fun _ => h1⟩
        obtain ⟨hw, hrd, hTP, hP0⟩ := hfacts
        have hPl : P.length ≤ 1000000 := by
          have h1 : P = printC la := HPR.out.symm
          rw [h1]
          unfold printC
          split
          · unfold txtC; rw [List.length_map, HLA.out]; omega
          · exact Nat.zero_le _
        have HW := Lib.hid hw
        have HRD := Lib.hid hrd
        have HPL := Lib.hid hPl
        have HREAD : Hid (∀ W : World, Calls Try.prog 19 #[.string ⟨P.toArray⟩] W (ReadTo W P true)) := fun W => by
          have h := cread_spec (W := W) P hPl
          rw [hw] at h
          exact h
        have HPRINT : Hid (∀ W : World, ReadsI W (.slice ao n capa) la → Calls Try.prog 21 #[.slice ao n capa] W fun e W' => e = .returned (.string ⟨P.toArray⟩) ∧ Hid (Keeps (fun _ => False) W W')) := fun W h => by
          refine (cprint_spec h (by rw [HLA.out]; omega) HVA.out).mono ?_
          rintro e W' ⟨rfl, hb⟩
          exact ⟨by rw [HPR.out], Keeps.of_below hb.out (Nat.le_refl _)⟩
        have HCR1 : Hid (∀ W : World, ReadsI W (.slice ao n capa) la → Calls Try.prog 20 #[.int .i64 (n : Int), .slice ao n capa] W fun e W' => e = .returned (.bool ok) ∧ W = W') := fun W h => by
          have q := cright_spec (vars := (n : Int)) (by omega) (by omega) h HVA.out
          rw [HOK.out] at q
          exact q
        have HCR2 : Hid (∀ W : World, ReadsI W (.slice ao n capa) la → Calls Try.prog 20 #[.int .i64 (m : Int), .slice ao n capa] W fun e W' => e = .returned (.bool o2) ∧ W = W') := fun W h => by
          have q := cright_spec (vars := (m : Int)) (by omega) (by omega) h HVA.out
          rw [HO2.out] at q
          exact q
        have HLR2 : Hid (∀ W : World, ReadsI W (.slice ao n capa) la → Calls Try.prog 11 #[.int .i64 (m : Int), .slice ao n capa] W fun e W' => e = .returned (.bool o2) ∧ W = W') := fun W h => by
          have q := lright38_spec (vars := (m : Int)) (by omega) (by omega) h
          rw [HO2.out] at q
          exact q
        obtain ⟨N, hNd⟩ : ∃ N, litsC la = N := ⟨_, rfl⟩
        have hN70 : N ≤ 70 := by have := litsC_le la; rw [HLA.out] at this; omega
        have hw2N : IntKind.i64.wrap (2 * (N : Int)) = 2 * (N : Int) := IntWalk.i64_in _ (by omega)
        have HLITS : Hid (∀ W : World, ReadsI W (.slice ao n capa) la → Calls Try.prog 22 #[.slice (some ⟨W.heap.size, 0, none⟩) 2 2] (W.alloc (.cells #[.slice ao n capa, .slice ao n capa] 27)) fun e W' => e = .returned (.int .i64 (2 * (N : Int))) ∧ Hid (Keeps (fun _ => False) W W')) := fun W h => by
          have hal := (MapKept.heap_alloc W (.cells #[.slice ao n capa, .slice ao n capa] 27)).1
          have hka : Keeps (fun _ => False) W (W.alloc (.cells #[.slice ao n capa, .slice ao n capa] 27)) := (Keeps.refl _ _).alloc _
          have h2 : ReadsII (W.alloc (.cells #[.slice ao n capa, .slice ao n capa] 27)) (.slice (some ⟨W.heap.size, 0, none⟩) 2 2) [la, la] := by
            refine ⟨_, 2, rfl, Nat.le_refl _, fun _ => ⟨W.heap.size, 0, rfl, lt_of_heap hal, fun j c hj => ⟨.slice ao n capa, ?_, ?_⟩⟩⟩
            · rw [cell_of_heap hal]
              match j, hj with
              | 0, hj => rfl
              | 1, hj => rfl
              | j + 2, hj => simp at hj
            · have e : c = la := by
                match j, hj with
                | 0, hj => simpa using hj.symm
                | 1, hj => simpa using hj.symm
                | j + 2, hj => simp at hj
              rw [e]
              exact h.keeps hka
          refine (literals_spec h2 (by show 2 ≤ 1000; omega) (fun c hc => by
            have e : c = la := by simpa using hc
            rw [e, HLA.out]; omega)).mono ?_
          rintro e W' ⟨rfl, rfl⟩
          refine ⟨?_, hka⟩
          have e : litsL [la, la] = 2 * N := by unfold litsL; simp [hNd]; omega
          rw [e]
          rfl
        have HIN : Hid (∀ W : World, ReadsI W (.slice ao n capa) la → ReadsI W (.slice bo m capb) lb → Calls Try.prog 23 #[.slice ao n capa, .slice bo m capb] W fun e W' => e = .returned (.bool (insB la lb)) ∧ W = W') := fun W h1 h2 => cinside_spec h1 h2 (by rw [HLA.out]; omega) (by rw [HLB.out]; omega)
        have HSA : Hid (∀ (W : World) u, ok = true → ReadsI W u (readC P) → ReadsI W (.slice ao n capa) la → Calls Try.prog 14 #[u, .slice ao n capa] W fun e w' => e = .returned (.bool true) ∧ ∃ nq, w' = W.drewN nq) := fun W u ho h1 h2 => csame_spec h1 h2 (by rw [hrd ho, HLA.out]; omega) (by rw [HLA.out]; omega) (hrd ho)
        have HREL : Hid (∀ W : World, Calls Try.prog 19 #[.string ⟨l.toArray⟩] W (ReadTo W l (textB l))) := fun W => cread_spec (W := W) l (by rw [HLL.out]; omega)
        have HPREL : Hid (∀ (W : World) u, textB l = true → ReadsI W u (readC l) → Calls Try.prog 21 #[u] W fun e W' => e = .returned (.string ⟨l.toArray⟩) ∧ Hid (Keeps (fun _ => False) W W')) := fun W u ht h => by
          refine (cprint_spec h (by unfold readC; rw [List.length_map, HLL.out]; omega) (fun x hx => by
            obtain ⟨c, _, rfl⟩ := List.mem_map.1 hx
            unfold rdC
            rcases rdC_cases c with ⟨_, e⟩ | ⟨_, e⟩ | ⟨_, e⟩ | ⟨_, _, _, e⟩ <;> omega)).mono ?_
          rintro e W' ⟨rfl, hb⟩
          exact ⟨by rw [print_read ht], Keeps.of_below hb.out (Nat.le_refl _)⟩
        obtain ⟨o5, ho5⟩ : ∃ o, textB l = o := ⟨_, rfl⟩
        rw [ho5] at HREL HPREL
        have HLV := Lib.hid lives38_any
        clear HPT hw hrd hPl ho5 HO2 HOK HPR HW HRD HPL HVA HVB
        rw [hNd]
        clear hNd
        cases ok
        case' false => (obtain rfl : P = [] := hP0 rfl; clear hTP hP0)
        case' true => (obtain rfl : T = P := hTP rfl; clear hTP hP0)
        all_goals
          go_upto_region 20 with (go_at_call 11; refine HR1.out.mono ?_; rintro e wA ⟨rfl, rfl⟩)
          clear HR1
          go_wp2_with fail
          go_loopg [12, 70] n (fun g o t wx => ∃ (i : Nat) (b : Bool) (nq : Nat), i ≤ n ∧ g = n - i ∧ o = .bool b ∧ t = .int .i64 i ∧ Hid ((decide (n = m) && insT la lb i) = b) ∧ wx = wr.drewN nq)
          case atStart => exact ⟨0, decide (n = m), 0, Nat.zero_le _, rfl, by by_cases e : n = m <;> simp [e] <;> omega, rfl, by show _ = _; rw [show insT la lb 0 = true from rfl, Bool.and_true], rfl⟩
          case round =>
            obtain ⟨j, b, nq, hj, rfl, rfl, rfl, HJ, rfl⟩ := hrel
            by_cases hlt2 : j < n
            · have hjI : (j : Int) < (n : Int) := by omega
              have hwj : IntKind.i64.wrap ((j : Int) + 1) = (j : Int) + 1 := IntWalk.i64_in _ (by omega)
              obtain ⟨ao', ca', hv', _, hrda⟩ := HRA.out
              simp only [Value.slice.injEq] at hv'
              obtain ⟨rfl, hk', rfl⟩ := hv'
              clear hk'
              obtain ⟨g1, o1, rfl, _, hc1⟩ := hrda (by have := HLA.out; omega)
              obtain ⟨x, hx⟩ : ∃ x, la[j]? = some x := ⟨_, List.getElem?_eq_getElem (by have := HLA.out; omega)⟩
              have c1 := hc1 j x hx
              have hja : j < capa := by omega
              cases b with
              | false =>
                have HN : Hid ((decide (n = m) && insT la lb (j + 1)) = false) := by
                  show _ = _
                  by_cases e : n = m
                  · have h1 := HJ.out
                    rw [decide_eq_true e, Bool.true_and] at h1 ⊢
                    obtain ⟨y, hy⟩ : ∃ x, lb[j]? = some x := ⟨_, List.getElem?_eq_getElem (by have := HLB.out; omega)⟩
                    rw [insT_succ hx hy, h1]; rfl
                  · rw [decide_eq_false e]; rfl
                clear HJ hx hc1 hrda
                go_wp2_with fail
                first | go_quiet (fail) | skip
                go_wp2_with fail
                go_roundg (n - (j + 1))
                case measure => omega
                case rel => exact ⟨j + 1, false, _, by omega, rfl, rfl, by go_num, HN, rfl⟩
              | true =>
                have h1 : n = m ∧ insT la lb j = true := by have := HJ.out; rw [Bool.and_eq_true, decide_eq_true_eq] at this; exact this
                obtain ⟨y, hy⟩ : ∃ x, lb[j]? = some x := ⟨_, List.getElem?_eq_getElem (by have := HLB.out; omega)⟩
                obtain ⟨bo', cb', hv', _, hrdb⟩ := HRB.out
                simp only [Value.slice.injEq] at hv'
                obtain ⟨rfl, hk', rfl⟩ := hv'
                clear hk'
                obtain ⟨g2, p2, rfl, _, hc2⟩ := hrdb (by have := HLB.out; omega)
                have c2 := hc2 j y hy
                have hjb : j < capb := by omega
                have hjm : (j : Int) < (m : Int) := by omega
                have HN0 : Hid ((decide (n = m) && insT la lb (j + 1)) = decide (y = -1 ∨ y = x)) := by
                  show _ = _
                  rw [decide_eq_true h1.1, Bool.true_and, insT_succ hx hy, h1.2, Bool.true_and]
                clear HJ hx hy hc1 hc2 hrda hrdb h1
                by_cases e1 : y = -1
                · have HN : Hid ((decide (n = m) && insT la lb (j + 1)) = true) := by show _ = _; rw [HN0.out]; exact decide_eq_true (.inl e1)
                  subst e1
                  clear HN0
                  go_wp2_with fail
                  first | go_quiet (fail) | skip
                  go_wp2_with fail
                  go_roundg (n - (j + 1))
                  case measure => omega
                  case rel => exact ⟨j + 1, true, _, by omega, rfl, rfl, by go_num, HN, rfl⟩
                · have b1 : (y == -1) = false := by simpa using e1
                  by_cases e2 : y = x
                  · have HN : Hid ((decide (n = m) && insT la lb (j + 1)) = true) := by show _ = _; rw [HN0.out]; exact decide_eq_true (.inr e2)
                    subst e2
                    clear HN0 e1
                    go_wp2_with fail
                    first | go_quiet (fail) | skip
                    go_wp2_with fail
                    go_roundg (n - (j + 1))
                    case measure => omega
                    case rel => exact ⟨j + 1, true, _, by omega, rfl, rfl, by go_num, HN, rfl⟩
                  · have HN : Hid ((decide (n = m) && insT la lb (j + 1)) = false) := by show _ = _; rw [HN0.out]; exact decide_eq_false (fun h => h.elim e1 e2)
                    have b2 : (y == x) = false := by simpa using e2
                    clear HN0 e1 e2
                    go_wp2_with fail
                    first | go_quiet (fail) | skip
                    go_wp2_with fail
                    go_roundg (n - (j + 1))
                    case measure => omega
                    case rel => exact ⟨j + 1, false, _, by omega, rfl, rfl, by go_num, HN, rfl⟩
            · have hjI : ¬ (j : Int) < (n : Int) := by omega
              have hjn : j = n := by omega
              have HINS : Hid (insB la lb = b) := by
                show _ = _
                have h1 := HJ.out
                rw [hjn] at h1
                unfold insB
                rw [HLA.out, HLB.out, ← h1]
                by_cases e : n = m
                · rw [e]
                · rw [decide_eq_false e]; rfl
              rw [HINS.out] at HIN
              have hk2 : Keeps (fun _ => False) wr (wr.drewN nq) := (Keeps.refl _ _).drewN nq
              have HRA3 := Lib.hid (HRA.out.keeps hk2)
              have HRB3 := Lib.hid (HRB.out.keeps hk2)
              have HK3 : Hid (Keeps (fun _ => False) w (wr.drewN nq)) := HK1.out.trans hk2
              clear HRA HRB HK1 HJ hk2 hjn HINS
              generalize wr.drewN nq = w3 at *
              go_wp2_with fail
              refine (HREAD.out w3).mono ?_
              rintro e w4 ⟨co, cn, cc, rfl, h4⟩
              have HK4 : Hid (Keeps (fun _ => False) w w4) := HK3.out.trans h4.out.1
              have HRA4 := Lib.hid (HRA3.out.keeps h4.out.1)
              have HRB4 := Lib.hid (HRB3.out.keeps h4.out.1)
              have HRC4 := Lib.hid (h4.out.2.1 rfl)
              clear HREAD h4 HK3 HRA3 HRB3
              cases b <;> cases o2
              all_goals
                go_wp2_with fail
                refine (HCR1.out w4 HRA4.out).mono ?_
                rintro e w' ⟨rfl, rfl⟩
                go_wp2_with fail
                refine (HCR2.out w4 HRA4.out).mono ?_
                rintro e w' ⟨rfl, rfl⟩
                go_wp2_with fail
                refine (HLR2.out w4 HRA4.out).mono ?_
                rintro e w' ⟨rfl, rfl⟩
                go_wp2_with fail
                refine (HPRINT.out w4 HRA4.out).mono ?_
                rintro e w5 ⟨rfl, h5⟩
                have HK5 : Hid (Keeps (fun _ => False) w w5) := HK4.out.trans h5.out
                have HRA5 := Lib.hid (HRA4.out.keeps h5.out)
                have HRB5 := Lib.hid (HRB4.out.keeps h5.out)
                have HRC5 := Lib.hid (HRC4.out.keeps h5.out)
                clear h5 HK4 HRA4 HRB4 HRC4 HCR1 HCR2 HLR2 HPRINT
                go_wp2_with fail
                refine (HLITS.out w5 HRA5.out).mono ?_
                rintro e w6 ⟨rfl, h6⟩
                have HK6 : Hid (Keeps (fun _ => False) w w6) := HK5.out.trans h6.out
                have HRA6 := Lib.hid (HRA5.out.keeps h6.out)
                have HRB6 := Lib.hid (HRB5.out.keeps h6.out)
                have HRC6 := Lib.hid (HRC5.out.keeps h6.out)
                clear h6 HK5 HRA5 HRB5 HRC5 HLITS
                go_wp2_with fail
                refine (HIN.out w6 HRA6.out HRB6.out).mono ?_
                rintro e w' ⟨rfl, rfl⟩
                go_wp2_with (go_at_call 14; refine (HSA.out w6 _ (by first | exact trivial | rfl) HRC6.out HRA6.out).mono ?_; rintro e w' ⟨rfl, nq2, rfl⟩)
                refine (HREL.out _).mono ?_
                rintro e w7 ⟨eo, en, ec, rfl, h7⟩
                have HK7 : Hid (Keeps (fun _ => False) w w7) := HK6.out.trans (by first | exact h7.out.1 | exact ((Keeps.refl _ _).drewN _).trans h7.out.1)
                have HC7 := Lib.hid h7.out.2
                clear h7 HK6 HRA6 HRB6 HRC6 HIN HSA HREL
                cases o5
                case' false =>
                  have hen : en = 0 := HC7.out.2 rfl
                  subst hen
                  have HKE : Hid (∃ x, Keeps (fun _ => False) w w7 ∧ x = w7) := ⟨w7, HK7.out, rfl⟩
                  have HPE : Hid True := trivial
                  go_wp2_with fail
                case' true =>
                  have HPE := Lib.hid (HPREL.out w7 _ (by first | rfl | trivial) (HC7.out.1 rfl))
                  go_wp2_with fail
                  refine HPE.out.mono ?_
                  rintro e w8 ⟨rfl, h8⟩
                  have HK8 : Hid (Keeps (fun _ => False) w w8) := HK7.out.trans h8.out
                  clear h8 HK7
                  have HK7 := HK8
                  clear HK8
                  go_wp2_with fail
                all_goals
                  refine (HLV.out _).mono ?_
                  rintro e wA ⟨rfl, hA⟩
                  have HP : Hid (Below w.heap.size w wA) := by
                    have hb := HK7.out.below (Nat.le_refl w.heap.size) (fun _ _ x => x)
                    exact hb.trans (hA.mono hb.size)
                  clear hA HK7
                  go_wp2_with fail
                  go_ret
                  exact ⟨rfl, HP⟩
end Go.Proofs.Ytloidoekmicloaa
