/-
  The law's follows: true where a rule tells so.
-/
import Derived.Test.YtckjgefpelnkoaaDoorSemModel
import Derived.Test.YtckjgefpelnkoaaDoorRefRight
set_option linter.unusedVariables false
set_option linter.unusedSimpArgs false
set_option linter.unnecessarySimpa false
namespace Go.Proofs.YtckjgefpelnkoaaDoor
open Go.ChangeShapes Go.WideShapes Go.ChangeAt Go.RowKit Go.Deep SetPlain
/-- Does it follow by this rule? -/
def fol1 (P K : Nat) (In : Nat → Nat → Bool) (role who : Nat) (r : Rl) : Bool :=
  rightB P K r && (decide (r.head = (role : Int)) && (if r.kind = 1 then decide (r.who = (who : Int)) else if r.kind = 2 then hasB (P * K) P In r.a who
    else if r.kind = 3 then (listTo (rowP (P * K) In r.a) P).any (fun x => hasB (P * K) P In ((x : Int) * K + r.via) who) else (hasB (P * K) P In r.a who && hasB (P * K) P In r.b who)))
/-- A model, from a world on in which only new memory is written. -/
structure MdT (mo fb bw : Nat) (rb : Nat → Nat) (P K tot steps : Nat) (In : Nat → Nat → Bool) (W0 W : World) : Prop where
  mdl : Mdl mo fb bw rb P K tot steps In W
  keep : Keeps (fun _ => False) W0 W
  tab : TabIn W
section
variable {W W0 : World} {mo fb bw : Nat} {rb : Nat → Nat} {P K tot steps : Nat} {In : Nat → Nat → Bool}
theorem MdT.quiet (h : MdT mo fb bw rb P K tot steps In W0 W) {W' : World} (hk : Keeps (fun _ => False) W W') : MdT mo fb bw rb P K tot steps In W0 W' := ⟨h.mdl.keeps hk, h.keep.trans hk, h.tab.keeps hk (fun x => x)⟩
theorem MdT.below (h : MdT mo fb bw rb P K tot steps In W0 W) : Below W0.heap.size W0 W := h.keep.below (Nat.le_refl _) (fun _ _ x => x)
theorem MdT.in_ (h : Hid (MdT mo fb bw rb P K tot steps In W0 W)) (i c : Int) (hc0 : -9223372036854775808 ≤ c) (hc1 : c ≤ 9223372036854775807) :
    Calls Tryd.prog 9 #[.pointer (some ⟨mo, 0, none⟩), .int .i64 i, .int .i64 c] W fun e W' => e = .returned (.bool (hasB (P * K) P In i c)) ∧ W = W' := h.out.mdl.in_spec i c hc0 hc1
theorem MdT.list (h : Hid (MdT mo fb bw rb P K tot steps In W0 W)) (i : Int) :
    Calls Tryd.prog 12 #[.pointer (some ⟨mo, 0, none⟩), .int .i64 i] W fun e w' => ∃ ao cap, e = .returned (.slice ao (listTo (rowP (P * K) In i) P).length cap) ∧ Hid (ReadsL w' (.slice ao (listTo (rowP (P * K) In i) P).length cap) (listTo (rowP (P * K) In i) P)) ∧ Hid (MdT mo fb bw rb P K tot steps In W0 w') ∧ Hid (Keeps (fun _ => False) W w') := by
  refine (h.out.mdl.list_spec h.out.tab i).mono ?_
  rintro e w' ⟨v, rfl, hr, hb⟩
  have hr2 := hr
  obtain ⟨ao, cap, rfl, _⟩ := hr2
  exact ⟨ao, cap, rfl, hr, h.out.quiet (Keeps.of_below hb (Nat.le_refl _)), Keeps.of_below hb (Nat.le_refl _)⟩
theorem any_first {f : Rl → Bool} {rs : List Rl} (h : rs.any f = true) : ¬ ∀ r, r ∈ rs.take rs.length → f r = false := fun hn => by
  rw [List.take_length] at hn
  obtain ⟨r, hr, hf⟩ := List.any_eq_true.1 h
  rw [hn r hr] at hf; cases hf
theorem take_next {f : Rl → Bool} {rs : List Rl} {j : Nat} {r : Rl} (hr : rs[j]? = some r) (h : ∀ r, r ∈ rs.take j → f r = false) (hf : f r = false) : ∀ r, r ∈ rs.take (j + 1) → f r = false := fun u hu => by
  rw [List.take_add_one, hr] at hu
  rcases List.mem_append.1 hu with hu | hu
  · exact h u hu
  · simp only [Option.toList_some, List.mem_singleton] at hu
    rw [hu]; exact hf
theorem take_nextN {f : Nat → Bool} {rs : List Nat} {j : Nat} {r : Nat} (hr : rs[j]? = some r) (h : ∀ r, r ∈ rs.take j → f r = false) (hf : f r = false) : ∀ r, r ∈ rs.take (j + 1) → f r = false := fun u hu => by
  rw [List.take_add_one, hr] at hu
  rcases List.mem_append.1 hu with hu | hu
  · exact h u hu
  · simp only [Option.toList_some, List.mem_singleton] at hu
    rw [hu]; exact hf
set_option maxRecDepth 100000 in
set_option maxHeartbeats 3200000 in
theorem follows_spec (h : Mdl mo fb bw rb P K tot steps In W) (hT : TabIn W) (hP : P ≤ 64) (hK : K ≤ 64) (rs : List Rl) (n : Nat) (hn : rs.length = n) (hn2 : n ≤ 1000) (ao : Option Addr) (cap : Nat) (hcap : n ≤ cap) (hR : RuleRow W ao rs) (role who : Nat) (hwho : who < P) (hany : rs.any (fol1 P K In role who) = true) :
    Calls Tryd.prog 17 #[.pointer (some ⟨mo, 0, none⟩), .int .i64 P, .int .i64 K, .slice ao n cap, .int .i64 role, .int .i64 who] W (RightPost true W) := by
  have HM : Hid (MdT mo fb bw rb P K tot steps In W W) := ⟨h, Keeps.refl _ _, hT⟩
  have HR := Lib.hid hR
  have HANY := Lib.hid (any_first hany)
  clear h hT hR hany
  go_enter Tryd.func17, Tryd.ntmps17
  go_wp2_with fail
  go_loopg [19] n (fun g t wr => ∃ j : Nat, j ≤ n ∧ g = n - j ∧ t = .int .i64 j ∧ Hid (MdT mo fb bw rb P K tot steps In W wr) ∧ Hid (∀ r, r ∈ rs.take j → fol1 P K In role who r = false))
  case atStart => exact ⟨0, Nat.zero_le _, rfl, rfl, HM.out, fun r hr => by cases hr⟩
  case round =>
    clear HM
    obtain ⟨j, hj, rfl, rfl, hm, hno⟩ := hrel
    by_cases hlt : j < n
    · obtain ⟨r, hr⟩ : ∃ r, rs[j]? = some r := ⟨_, List.getElem?_eq_getElem (by omega)⟩
      have hrow := HR.out.keeps hm.out.below (fun _ _ _ h => h)
      obtain ⟨bb, off, rfl, hbl, hc⟩ := hrow (by omega)
      obtain ⟨c0, c1, c2, c3, c4, c5⟩ := hc j r hr
      have hjI : (j : Int) < (n : Int) := by omega
      have HNO := Lib.hid (fun hf => take_next hr hno.out hf)
      obtain ⟨kind, head, hwo, a, b, via⟩ := r
      simp only [] at c0 c1 c2 c3 c4 c5
      have hbx : MdT mo fb bw rb P K tot steps In W (wr.alloc (.cells #[.int .i64 kind, .int .i64 head, .int .i64 hwo, .int .i64 a, .int .i64 b, .int .i64 via] 25)) := hm.out.quiet ((Keeps.refl _ _).alloc _)
      have HBX := Lib.hid hbx
      obtain ⟨rb1, hrb⟩ : ∃ x, rightB P K ⟨kind, head, hwo, a, b, via⟩ = x := ⟨_, rfl⟩
      have HA : Hid (Calls Tryd.prog 16 #[.int .i64 P, .int .i64 K, .agg #[.int .i64 kind, .int .i64 head, .int .i64 hwo, .int .i64 a, .int .i64 b, .int .i64 via]] (wr.alloc (.cells #[.int .i64 kind, .int .i64 head, .int .i64 hwo, .int .i64 a, .int .i64 b, .int .i64 via] 25)) (RightPost rb1 (wr.alloc (.cells #[.int .i64 kind, .int .i64 head, .int .i64 hwo, .int .i64 a, .int .i64 b, .int .i64 via] 25)))) := by
        rw [← hrb]
        exact rr_spec _ _ _ ⟨kind, head, hwo, a, b, via⟩
      clear hbx hm hno hrow hc hr hbl
      go_wp2_with fail
      refine HA.out.mono ?_
      rintro e W2 ⟨rfl, hb2⟩
      have hk2 := Keeps.of_below (S := fun _ => False) hb2 (Nat.le_refl _)
      have hm2 := HBX.out.quiet hk2
      have q : ∀ i, W2.cell? ⟨wr.heap.size, i, none⟩ = (wr.alloc (.cells #[.int .i64 kind, .int .i64 head, .int .i64 hwo, .int .i64 a, .int .i64 b, .int .i64 via] 25)).cell? ⟨wr.heap.size, i, none⟩ := fun i => hb2.cell (p := ⟨wr.heap.size, i, none⟩) (by simp)
      have q0 := (q 0).trans (by simp : _ = some (.int .i64 kind))
      have q1 := (q 1).trans (by simp : _ = some (.int .i64 head))
      have q2 := (q 2).trans (by simp : _ = some (.int .i64 hwo))
      have q3 := (q 3).trans (by simp : _ = some (.int .i64 a))
      have q4 := (q 4).trans (by simp : _ = some (.int .i64 b))
      have q5 := (q 5).trans (by simp : _ = some (.int .i64 via))
      have HM2 := Lib.hid hm2
      have HB2 := Lib.hid hm2.below
      clear q hk2 hb2 HA HBX c0 c1 c2 c3 c4 c5 hm2
      cases rb1 with
      | false =>
        have hf : fol1 P K In role who ⟨kind, head, hwo, a, b, via⟩ = false := by unfold fol1; rw [hrb]; rfl
        have HN := Lib.hid (HNO.out hf)
        clear HNO hf HANY HB2
        go_wp2_with fail
        go_roundg (n - (j + 1))
        case measure => omega
        case rel => exact ⟨j + 1, by omega, rfl, by go_num, HM2.out, HN.out⟩
      | true =>
        by_cases hh : head = (role : Int)
        · subst hh
          obtain ⟨_, hcase⟩ := right_iff hrb
          simp only [] at hcase
          have hfol : fol1 P K In role who ⟨kind, role, hwo, a, b, via⟩ = (if kind = 1 then decide (hwo = (who : Int)) else if kind = 2 then hasB (P * K) P In a who
              else if kind = 3 then (listTo (rowP (P * K) In a) P).any (fun x => hasB (P * K) P In ((x : Int) * K + via) who) else (hasB (P * K) P In a who && hasB (P * K) P In b who)) := by
            unfold fol1
            rw [hrb, decide_eq_true (rfl : (role : Int) = (role : Int)), Bool.true_and, Bool.true_and]
          rcases hcase with ⟨k1, _⟩ | ⟨k2, _⟩ | ⟨k3, _, _, hv0, hv1⟩ | ⟨k4, _⟩
          · subst k1
            rw [if_pos rfl] at hfol
            by_cases hw : hwo = (who : Int)
            · subst hw
              clear HNO hfol HANY
              go_wp2_with fail
              go_ret
              exact ⟨rfl, HB2.out⟩
            · have HN := Lib.hid (HNO.out (by rw [hfol]; exact decide_eq_false hw))
              have hwI := beqf hw
              clear HNO hfol HANY HB2 hw
              go_wp2_with fail
              go_roundg (n - (j + 1))
              case measure => omega
              case rel => exact ⟨j + 1, by omega, rfl, by go_num, HM2.out, HN.out⟩
          · subst k2
            rw [if_neg (by decide), if_pos rfl] at hfol
            have A1 := Lib.hid (MdT.in_ HM2 a who (by omega) (by omega))
            cases hin : hasB (P * K) P In a who with
            | true =>
              rw [hin] at A1
              clear HNO hfol HANY hin
              go_wp2_with fail
              refine A1.out.mono ?_
              rintro e W3 ⟨rfl, rfl⟩
              clear A1
              go_wp2_with fail
              go_ret
              exact ⟨rfl, HB2.out⟩
            | false =>
              rw [hin] at A1
              have HN := Lib.hid (HNO.out (by rw [hfol, hin]))
              clear HNO hfol HANY HB2 hin
              go_wp2_with fail
              refine A1.out.mono ?_
              rintro e W3 ⟨rfl, rfl⟩
              clear A1
              go_wp2_with fail
              go_roundg (n - (j + 1))
              case measure => omega
              case rel => exact ⟨j + 1, by omega, rfl, by go_num, HM2.out, HN.out⟩
          · subst k3
            rw [if_neg (by decide), if_neg (by decide), if_pos rfl] at hfol
            have A1 := Lib.hid (MdT.list HM2 a)
            have hltP : ∀ y, y ∈ listTo (rowP (P * K) In a) P → y < P := fun y hy => (listTo_lt _ _ _ hy).1
            have hll : (listTo (rowP (P * K) In a) P).length ≤ 64 := by rw [listTo_len]; exact Nat.le_trans (cnt_le _ _) hP
            generalize listTo (rowP (P * K) In a) P = l at A1 hfol hltP hll
            have HLT := Lib.hid hltP
            have HFOL := Lib.hid hfol
            clear hfol hltP HB2
            go_wp2_with fail
            refine A1.out.mono ?_
            rintro e W3 ⟨aoL, capL, rfl, hrl, hm3, hk23⟩
            obtain ⟨ao5, cap5, he5, hle5, _, hcells⟩ := hrl.out
            cases he5
            have HCE := Lib.hid hcells
            have q5b := (hk23.out.cell (p := ⟨wr.heap.size, 5, none⟩) (lt_of_cell q5) (fun x => x)).trans q5
            have HM3 := hm3
            have HB3 := Lib.hid hm3.out.below
            clear hrl hcells hm3 A1 q0 q1 q2 q3 q4 q5
            go_wp2_with fail
            go_loopg [68] l.length (fun g t wy => ∃ i : Nat, i ≤ l.length ∧ g = l.length - i ∧ t = .int .i64 i ∧ wy = W3 ∧ Hid (∀ y, y ∈ l.take i → hasB (P * K) P In ((y : Int) * K + via) who = false))
            case atStart => exact ⟨0, Nat.zero_le _, rfl, rfl, rfl, fun y hy => (by cases hy)⟩
            case round =>
              obtain ⟨i, hi, rfl, rfl, rfl, hall⟩ := hrel
              by_cases hlt3 : i < l.length
              · obtain ⟨y, hy⟩ : ∃ y, l[i]? = some y := ⟨_, List.getElem?_eq_getElem hlt3⟩
                obtain ⟨g5, rfl, hg5, hc5⟩ := HCE.out (by omega)
                have hcy := hc5 i y hy
                have hiI : (i : Int) < (l.length : Int) := by omega
                have hyP := HLT.out y (List.mem_of_getElem? hy)
                obtain ⟨z, hz⟩ : ∃ z, y * K = z := ⟨_, rfl⟩
                have hzl : z ≤ 64 * 64 := by rw [← hz]; exact Nat.mul_le_mul (by omega) hK
                have hyK : (y : Int) * (K : Int) = (z : Int) := by rw [← hz]; simp
                have hw1 : IntKind.i64.wrap ((y : Int) * (K : Int)) = (z : Int) := by rw [hyK]; exact IntWalk.i64_in _ (by omega)
                obtain ⟨v, hv⟩ : ∃ v : Int, (z : Int) + via = v := ⟨_, rfl⟩
                have hw2 : IntKind.i64.wrap ((z : Int) + via) = v := by rw [hv]; exact IntWalk.i64_in _ (by omega)
                have A2 := Lib.hid (MdT.in_ HM3 v who (by omega) (by omega))
                cases hin : hasB (P * K) P In v who with
                | true =>
                  rw [hin] at A2
                  clear HNO HFOL HANY hin hc5 hy hall
                  go_wp2_with fail
                  refine A2.out.mono ?_
                  rintro e W4 ⟨rfl, rfl⟩
                  clear A2
                  go_wp2_with fail
                  go_ret
                  exact ⟨rfl, HB3.out⟩
                | false =>
                  rw [hin] at A2
                  have HN := Lib.hid (take_nextN (f := fun y : Nat => hasB (P * K) P In ((y : Int) * K + via) who) hy hall.out (by show hasB (P * K) P In ((y : Int) * K + via) who = false; rw [hyK, hv, hin]))
                  clear hin hc5 hy hall
                  go_wp2_with fail
                  refine A2.out.mono ?_
                  rintro e W4 ⟨rfl, rfl⟩
                  clear A2
                  go_wp2_with fail
                  go_roundg (l.length - (i + 1))
                  case measure => omega
                  case rel => exact ⟨i + 1, by omega, rfl, by go_num, rfl, HN.out⟩
              · obtain rfl : i = l.length := by omega
                have hal := hall.out
                rw [List.take_length] at hal
                have HN := Lib.hid (HNO.out (by
                  rw [HFOL.out]
                  cases hh : l.any (fun x => hasB (P * K) P In ((x : Int) * K + via) who) with
                  | false => rfl
                  | true =>
                    obtain ⟨y, hy, hf⟩ := List.any_eq_true.1 hh
                    rw [hal y hy] at hf; cases hf))
                clear HNO HFOL HANY hal hall HB3 HCE HLT
                go_wp2_with fail
                go_roundg (n - (j + 1))
                case measure => omega
                case rel => exact ⟨j + 1, by omega, rfl, by go_num, HM3.out, HN.out⟩
          · subst k4
            rw [if_neg (by decide), if_neg (by decide), if_neg (by decide)] at hfol
            have A1 := Lib.hid (MdT.in_ HM2 a who (by omega) (by omega))
            have A2 := Lib.hid (MdT.in_ HM2 b who (by omega) (by omega))
            cases hin : hasB (P * K) P In a who with
            | true =>
              rw [hin] at A1
              cases hin2 : hasB (P * K) P In b who with
              | true =>
                rw [hin2] at A2
                clear HNO hfol HANY hin hin2
                go_wp2_with fail
                refine A1.out.mono ?_
                rintro e W3 ⟨rfl, rfl⟩
                clear A1
                go_wp2_with fail
                refine A2.out.mono ?_
                rintro e W3 ⟨rfl, rfl⟩
                clear A2
                go_wp2_with fail
                go_ret
                exact ⟨rfl, HB2.out⟩
              | false =>
                rw [hin2] at A2
                have HN := Lib.hid (HNO.out (by rw [hfol, hin, hin2]; rfl))
                clear HNO hfol HANY HB2 hin hin2
                go_wp2_with fail
                refine A1.out.mono ?_
                rintro e W3 ⟨rfl, rfl⟩
                clear A1
                go_wp2_with fail
                refine A2.out.mono ?_
                rintro e W3 ⟨rfl, rfl⟩
                clear A2
                go_wp2_with fail
                go_roundg (n - (j + 1))
                case measure => omega
                case rel => exact ⟨j + 1, by omega, rfl, by go_num, HM2.out, HN.out⟩
            | false =>
              rw [hin] at A1
              have HN := Lib.hid (HNO.out (by rw [hfol, hin]; rfl))
              clear HNO hfol HANY HB2 hin A2
              go_wp2_with fail
              refine A1.out.mono ?_
              rintro e W3 ⟨rfl, rfl⟩
              clear A1
              go_wp2_with fail
              go_roundg (n - (j + 1))
              case measure => omega
              case rel => exact ⟨j + 1, by omega, rfl, by go_num, HM2.out, HN.out⟩
        · have hf : fol1 P K In role who ⟨kind, head, hwo, a, b, via⟩ = false := by unfold fol1; simp [hh]
          have HN := Lib.hid (HNO.out hf)
          have hhI : (head != (role : Int)) = true := by simpa using hh
          clear HNO hf HANY HB2 hh
          go_wp2_with fail
          go_roundg (n - (j + 1))
          case measure => omega
          case rel => exact ⟨j + 1, by omega, rfl, by go_num, HM2.out, HN.out⟩
    · obtain rfl : j = n := by omega
      rw [← hn] at hno
      exact absurd hno.out HANY.out
end
end Go.Proofs.YtckjgefpelnkoaaDoor
