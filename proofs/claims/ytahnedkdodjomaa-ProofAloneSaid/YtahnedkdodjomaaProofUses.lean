/-
  The rules that steps use: sorted, each once.
-/
import Derived.Test.YtahnedkdodjomaaProofRef
import Derived.Test.YtahnedkdodjomaaIntSortNil
set_option linter.unusedVariables false
set_option linter.unusedSimpArgs false
set_option linter.unnecessarySimpa false
namespace Go.Proofs.Ytahnedkdodjomaa
open Go.ChangeShapes Go.WideShapes Go.ChangeAt Go.RowKit Go.Deep SetPlain
/-- The rules of steps. -/
def rulesOf (l : List Sp) : List Int := l.map Sp.rule
theorem rulesOf_len (l : List Sp) : (rulesOf l).length = l.length := by unfold rulesOf; rw [List.length_map]
theorem rulesOf_take_succ {l : List Sp} {j : Nat} {s : Sp} (hs : l[j]? = some s) : rulesOf (l.take (j + 1)) = rulesOf (l.take j) ++ [s.rule] := by
  unfold rulesOf
  rw [List.take_add_one, hs]
  simp
set_option maxRecDepth 100000
set_option maxHeartbeats 3200000
theorem uses_spec {W : World} {so : Option Addr} {n cap : Nat} {l : List Sp} (hS : StRow W so l) (hh : l.length = n) (hcap : n ≤ cap) (hlen : n ≤ 100000) :
    Calls Try.prog 8 #[.slice so n cap] W fun e W' => ∃ v, e = .returned v ∧ Hid (Keeps (fun _ => False) W W' ∧ ReadsI W' v (suppL (rulesOf l))) := by
  obtain ⟨i0, hi0, hz0, hz1, hz2⟩ := info_parts iinfo
  have HS := Lib.hid hS
  have HH := Lib.hid hh
  clear hS hh
  go_enter Try.func8, Try.ntmps8
  go_wp2_with fail
  go_loopg [2, 7] n (fun g ov t wy => ∃ (j : Nat), j ≤ n ∧ g = n - j ∧ t = .int .i64 j ∧ (j = 0 → ov = .slice none 0 0) ∧ Hid (Keeps (fun _ => False) W wy ∧ OwnI W wy ov (rulesOf (l.take j))))
  case atStart => exact ⟨0, Nat.zero_le _, rfl, rfl, fun _ => rfl, Keeps.refl _ _, World.ownsRow_nil _ _ _ _⟩
  case round =>
    obtain ⟨j, hj, rfl, rfl, hnil, HI⟩ := hrel
    by_cases hlt : j < n
    · have hjI : (j : Int) < (n : Int) := by omega
      have hwj : IntKind.i64.wrap ((j : Int) + 1) = (j : Int) + 1 := IntWalk.i64_in _ (by omega)
      obtain ⟨s, hs⟩ : ∃ s, l[j]? = some s := ⟨_, List.getElem?_eq_getElem (by rw [HH.out]; exact hlt)⟩
      obtain ⟨bb, off, rfl, hbb, hc⟩ := (HS.out.keeps HI.out.1) (by rw [HH.out]; omega)
      obtain ⟨c0, c1, c2, c3⟩ := hc j s hs
      have hbl : (rulesOf (l.take j)).length ≤ 100000 := by rw [rulesOf_len, List.length_take]; omega
      have hsz := HI.out.1.size
      have HZ := Lib.hid (rulesOf_take_succ hs)
      have HK4 : Hid (Keeps (fun _ => False) W wr) := HI.out.1
      have HOW : Hid (wr.ownsRow W.heap.size 3 1 u2 (rulesOf (l.take j)).length (iCells (rulesOf (l.take j)))) := HI.out.2
      obtain ⟨rule, role, who, mid⟩ := s
      simp only [] at c0 c1 c2 c3 HZ
      clear hc hs HI hnil
      go_upto_region 4 with fail
      obtain ⟨w4, hw4⟩ : ∃ w4, wr.alloc (.cells #[.int .i64 rule, .int .i64 role, .int .i64 who, .int .i64 mid] 30) = w4 := ⟨_, rfl⟩
      simp only [hw4]
      have k4 : Keeps (fun _ => False) wr w4 := by rw [← hw4]; exact (Keeps.refl _ _).alloc _
      have z0 : w4.cell? ⟨wr.heap.size, 0, none⟩ = some (.int .i64 rule) := by rw [← hw4]; simp
      have HOW4 : Hid (w4.ownsRow W.heap.size 3 1 u2 (rulesOf (l.take j)).length (iCells (rulesOf (l.take j)))) := ownsRow_keeps' HOW.out k4 (fun _ _ x => x)
      have HK5 : Hid (Keeps (fun _ => False) W w4) := HK4.out.trans k4
      have hsz4 := HK5.out.size
      clear hw4 c0 c1 c2 c3 k4 HOW HK4
      go_wp2_with (at_builtin; refine wpList_append_own _ rfl _ _ 28 rfl W.heap.size 3 i0 _ 1 8 Try.underlying28 hi0 hz0 hz1 hz2 rfl (by decide) _ _ _ rfl (HOW4.out.alloc _) ⟨w4.heap.size, 0, none⟩ 1 1 [.int .i64 rule] rfl rfl (cells_new w4 _ _) (by intro u hu; simp only [List.mem_cons, List.not_mem_nil, or_false] at hu; subst hu; rfl) (by unfold maxLen; omega) (by omega) (by simp; omega) ?_)
      intro v2 w6 hown2 hgrow _
      have HN : Hid (Keeps (fun _ => False) W w6 ∧ OwnI W w6 v2 (rulesOf (l.take (j + 1)))) := by
        refine ⟨?_, ?_⟩
        · exact (HK5.out.trans ((Keeps.refl (fun _ => False) w4).alloc _)).trans_new (keeps_grown hgrow) (fun q hq e => by have := own_block HOW4.out q e; omega)
        · show w6.ownsRow _ _ _ _ (rulesOf (l.take (j + 1))).length (iCells (rulesOf (l.take (j + 1))))
          rw [HZ.out, iCells_snoc, List.length_append]
          exact hown2
      clear HOW4 HK5
      clear HZ hown2 hgrow
      go_wp2_with fail
      go_roundg (n - (j + 1))
      case measure => omega
      case rel => exact ⟨j + 1, by omega, rfl, by go_num, fun h => absurd h (by omega), HN⟩
    · obtain rfl : j = n := by omega
      have hjI : ¬ (j : Int) < (j : Int) := by omega
      have htk : l.take j = l := List.take_of_length_le (by rw [HH.out]; exact Nat.le_refl _)
      have hI := HI.out
      rw [htk] at hI
      obtain ⟨m0, hm0⟩ : ∃ m, rulesOf l = m := ⟨_, rfl⟩
      have hml0 : m0.length = j := by rw [← hm0, rulesOf_len, HH.out]
      rw [hm0] at hI
      have HM0 := Lib.hid hm0
      have HKW := Lib.hid hI.1
      by_cases hlz : j = 0
      · have hov := hnil hlz
        subst hov
        have HP : Hid (Keeps (fun _ => False) W wr ∧ ReadsI wr (.slice none 0 0) (suppL m0)) := by
          refine ⟨HKW.out, ?_⟩
          have hs0 : suppL m0 = [] := List.eq_nil_of_length_eq_zero (by have := supp_len m0; omega)
          rw [hs0]
          exact ⟨none, 0, rfl, Nat.le_refl _, fun h => absurd h (by simp)⟩
        have HSN := Lib.hid (qsort_nil wr)
        have HCN := Lib.hid (qcompact_nil wr none 0)
        clear hI HKW HI hlz hml0 hm0 htk
        go_wp2_with fail
        refine HSN.out.mono ?_
        rintro e w' ⟨rfl, rfl⟩
        go_wp2_with fail
        refine HCN.out.mono ?_
        rintro e w' ⟨rfl, rfl⟩
        go_wp2_with fail
        go_ret
        exact ⟨_, rfl, by rw [HM0.out]; exact HP⟩
      · obtain ⟨ao, cap2, hv, hle, _, hno, hb⟩ := own_form hI.2
        have hlp : 0 < m0.length := by omega
        obtain ⟨g, rfl⟩ : ∃ g, ao = some ⟨g, 0, none⟩ := by
          cases ao with
          | none => have := (hno rfl).1; omega
          | some a =>
            obtain ⟨q1, q2, _⟩ := hb a rfl
            obtain ⟨x, y, z⟩ := a
            simp only at q1 q2
            subst q1 q2
            exact ⟨x, rfl⟩
        have hgb := own_block hI.2 g (by rw [hv]; rfl)
        have hgl := own_lt hI.2 g (by rw [hv]; rfl)
        have hown := hI.2
        unfold OwnI at hown
        rw [hv] at hown
        have HSO := Lib.hid (qsort_spec (cap := cap2) (holds_own hown) hgl (by omega))
        subst hv
        have HGW : Hid (W.heap.size ≤ g) := hgb
        have hcm : m0.length ≤ 1000000 := by omega
        clear hml0
        obtain ⟨len, hlen2⟩ : ∃ x, m0.length = x := ⟨_, rfl⟩
        have HLEN := Lib.hid hlen2
        clear hown hb hno HI hI hlz htk hnil hm0
        rw [hlen2] at HSO hle hcm ⊢
        clear hlen2 hlp
        go_wp2_with fail
        refine HSO.out.mono ?_
        rintro e w4 ⟨rfl, h4⟩
        obtain ⟨m, hm⟩ : ∃ m, (m0.mergeSort fun x y => decide (x ≤ y)) = m := ⟨_, rfl⟩
        have hml : m.length = len := by rw [← hm, ← HLEN.out]; simp
        have HH4 := h4.out.2.1
        rw [hm] at HH4
        have HCO0 := qcompact_spec (cap := cap2) HH4 (by omega) (Nat.lt_of_lt_of_le hgl h4.out.1.size) (by omega)
        rw [hml] at HCO0
        have hsup : suppL m0 = Go.Lib.compactUpTo m.toArray len := by unfold suppL; rw [hm, hml]
        rw [← hsup] at HCO0
        have HCO := Lib.hid HCO0
        have HK4 := Lib.hid h4.out.1
        have HSU := Lib.hid hsup
        clear HSO h4 HH4 HCO0 hm hml hsup
        go_wp2_with fail
        refine HCO.out.mono ?_
        rintro e w5 ⟨rfl, h5⟩
        have hsl := supp_len m0
        rw [HLEN.out] at hsl
        have HP : Hid (Keeps (fun _ => False) W w5 ∧ ReadsI w5 (.slice (some ⟨g, 0, none⟩) (suppL m0).length cap2) (suppL m0)) := by
          have kk : Keeps (fun q => q = g) wr w5 := HK4.out.trans h5.out.1
          refine ⟨HKW.out.trans_new kk (fun q hq e => by have h1 := HGW.out; omega), ?_⟩
          refine ⟨_, cap2, rfl, by omega, fun h0 => ⟨g, 0, rfl, Nat.lt_of_lt_of_le hgl kk.size, fun j x hj => ?_⟩⟩
          exact h5.out.2 j x hj
        clear HCO h5 HK4 HKW HSU HGW HLEN
        go_wp2_with fail
        go_ret
        exact ⟨_, rfl, by rw [HM0.out]; exact HP⟩
end Go.Proofs.Ytahnedkdodjomaa
