/-
  The walk of the law NamesTables.
-/
import Derived.Test.YtonkfkgbmlcceaaNameLives
import Derived.Test.YtonkfkgbmlcceaaNameRefFresh
import Derived.Deep.RegionWith
import Derived.Deep.RegionHeld3
set_option linter.unusedVariables false
set_option linter.unusedSimpArgs false
set_option linter.unnecessarySimpa false
namespace Go.Proofs.Ytonkfkgbmlcceaa
open Go.ChangeShapes Go.WideShapes Go.ChangeAt Go.RowKit Go.Deep
theorem own_noughtS {w : World} {base b : Nat} (h : w.heap[b]? = some (.cells #[] 9 (0, 0))) (hb : base ≤ b) : OwnS base w (.slice (some ⟨b, 0, none⟩) 0 0) [] :=
  ⟨by simp [sCells], .inr ⟨b, 0, #[], rfl, hb, h, Nat.le_refl _, by unfold maxLen; omega, by simp, by simp [sCells]⟩⟩
/-- Where the law's own look stands. -/
def seenL (X : List Str) (s : Str) (i : Nat) : Int := if s ∈ X.take i then atL X s else -1
theorem seen_step {X : List Str} (hX : X.Pairwise (· < ·)) (s : Str) {i : Nat} {y : Str} (hy : X[i]? = some y) : seenL X s (i + 1) = if y = s then (i : Int) else seenL X s i := by
  unfold seenL
  rw [List.take_add_one, hy]
  by_cases e : y = s
  · subst e
    rw [if_pos (by simp), if_pos rfl, at_get hX hy]
  · rw [if_neg e]
    have : s ∈ X.take i ++ (some y).toList ↔ s ∈ X.take i := by
      rw [List.mem_append]
      constructor
      · rintro (h | h)
        · exact h
        · simp at h; exact absurd h.symm e
      · exact .inl
    by_cases h : s ∈ X.take i
    · rw [if_pos (this.2 h), if_pos h]
    · rw [if_neg (fun q => h (this.1 q)), if_neg h]
theorem seen_all (X : List Str) (s : Str) : seenL X s X.length = atL X s := by
  unfold seenL
  rw [List.take_length]
  by_cases h : s ∈ X
  · rw [if_pos h]
  · rw [if_neg h, at_out h]
theorem tab_more (l m : List Str) : tabL (tabL l ++ m) = tabL (l ++ m) := tab_eq (tab_rises _) (fun x => by rw [tab_mem, List.mem_append, List.mem_append, tab_mem])
theorem getL_in {L : List Str} {i : Nat} {y : Str} (h : L[i]? = some y) : getL L (i : Int) = y := by
  unfold getL
  rw [if_pos (by omega), Int.toNat_natCast, List.getD_eq_getElem?_getD, h]
  rfl
theorem getL_end (L : List Str) : getL L (L.length : Int) = [] := by
  unfold getL
  rw [if_pos (by omega), Int.toNat_natCast, List.getD_eq_getElem?_getD, List.getElem?_eq_none (Nat.le_refl _)]
  rfl
theorem getL_neg (L : List Str) : getL L (-1) = [] := by unfold getL; rw [if_neg (by decide)]
theorem light_len {l : List Str} (h : lightB l = true) : l.length ≤ 40 := by
  unfold lightB at h
  rw [Bool.and_eq_true] at h
  exact of_decide_eq_true h.1
set_option maxRecDepth 100000
set_option maxHeartbeats 6400000
theorem namesTables_core (w : World) {v0 v1 : Value} {l m : List Str} (h0 : SrcS w v0 l) (h1 : SrcS w v1 m) (n : Int) (hn0 : -9223372036854775808 ≤ n) (hn1 : n ≤ 9223372036854775807) :
    Calls Try.prog 4 #[v0, v1, .int .i64 n] w fun e w' => e = .returned (.bool true) ∧ Below w.heap.size w w' := by
  have HL := Lib.hid lives01_any
  have HLI := Lib.hid (light_spec h0.1)
  have HLM := Lib.hid (light_spec h1.1)
  obtain ⟨k, hk⟩ : ∃ k, min n 60 = k := ⟨_, rfl⟩
  have hk0 : -9223372036854775808 ≤ k := by omega
  have hk1 : k ≤ 9223372036854775807 := by omega
  have HS0 := Lib.hid h0
  have HS1 := Lib.hid h1
  clear h0 h1
  go_enter Try.func4, Try.ntmps4
  go_wp2_with fail
  refine HLI.out.mono ?_
  rintro e w' ⟨rfl, rfl⟩
  obtain ⟨b0, hb0⟩ : ∃ b, lightB l = b := ⟨_, rfl⟩
  rw [hb0]
  cases b0 with
  | false =>
    clear HLI HLM hk
    go_wp2_with fail
    refine (HL.out _).mono ?_
    rintro e w2 ⟨rfl, hb⟩
    go_wp2_with fail
    go_ret
    exact ⟨rfl, hb⟩
  | true =>
  have hl40 := light_len hb0
  clear hb0 HLI
  go_wp2_with fail
  refine HLM.out.mono ?_
  rintro e w' ⟨rfl, rfl⟩
  obtain ⟨b1, hb1⟩ : ∃ b, lightB m = b := ⟨_, rfl⟩
  rw [hb1]
  cases b1 with
  | false =>
    clear HLM hk
    go_wp2_with fail
    refine (HL.out _).mono ?_
    rintro e w2 ⟨rfl, hb⟩
    go_wp2_with fail
    go_ret
    exact ⟨rfl, hb⟩
  | true =>
  have hm40 := light_len hb1
  clear hb1 HLM
  have HNW := Lib.hid (names_new HS0.out.1 (by omega))
  go_wp2_with fail
  refine HNW.out.mono ?_
  rintro e w1 ⟨p, rfl, hh1⟩
  obtain ⟨X, hX⟩ : ∃ X, tabL l = X := ⟨_, rfl⟩
  have hXr : X.Pairwise (· < ·) := by rw [← hX]; exact tab_rises l
  have hXl : X.length ≤ 40 := by rw [← hX]; exact Nat.le_trans (tab_len l) hl40
  have HXR := Lib.hid hXr
  have HK1 := Lib.hid hh1.out.1
  have HT1 : Hid (Tab w1 p X) := by rw [← hX]; exact hh1.out.2
  have HWI := Lib.hid (names_with HT1.out (HS1.out.keeps HK1.out) (by omega))
  clear HNW hh1 hXr
  go_wp2_with fail
  refine HWI.out.mono ?_
  rintro e w2 ⟨p2, rfl, hh2⟩
  have HY : Hid (tabL (X ++ m) = tabL (l ++ m)) := by show _ = _; rw [← hX]; exact tab_more l m
  have HK2 := Lib.hid (HK1.out.trans hh2.out.1)
  have HT2 := Lib.hid (HT1.out.keeps hh2.out.1)
  have HU2 : Hid (Tab w2 p2 (tabL (l ++ m))) := by rw [← HY.out]; exact hh2.out.2
  have HRN := ref_new (HS0.out.1.keeps HK2.out) (by omega)
  rw [hX] at HRN
  have HRN := Lib.hid HRN
  clear HWI hh2 HK1 HT1 hX
  go_wp2_with fail
  refine HRN.out.mono ?_
  rintro e w3 ⟨vx, rfl, hh3⟩
  have HK3 := Lib.hid (HK2.out.trans hh3.out.1)
  have HT3 := Lib.hid (HT2.out.keeps hh3.out.1)
  have HU3 := Lib.hid (HU2.out.keeps hh3.out.1)
  have HX3 := Lib.hid hh3.out.2
  have hka : Keeps (fun _ => False) w3 (w3.alloc (.cells #[] 9)) := (Keeps.refl _ _).alloc _
  have ha3 := (MapKept.heap_alloc w3 (.cells #[] 9)).1
  have HO3 := Lib.hid (own_noughtS (base := w3.heap.size) ha3 (Nat.le_refl _))
  have HSA := Lib.hid ((HS0.out.keeps HK3.out).keeps hka)
  have HKA := Lib.hid hka
  clear HRN hh3 HK2 HT2 HU2 hka ha3
  go_wp2_with (at_builtin; refine app_src rfl _ _ rfl w3.heap.size _ [] rfl HO3.out _ l rfl HSA.out (by simp; omega) (by simp) ?_)
  intro v4 w4 ho4 hk4
  have HK34 : Hid (Keeps (fun _ => False) w3 w4) := HKA.out.trans_new hk4 (fun q hq e => by omega)
  have HO4 := Lib.hid ho4
  have HSB := Lib.hid ((HS1.out.keeps HK3.out).keeps HK34.out)
  have hsz4 := HK34.out.size
  clear ho4 hk4 HO3 HSA HKA
  go_wp2_with (at_builtin; refine app_src rfl _ _ rfl w3.heap.size _ l rfl HO4.out _ m rfl HSB.out (by omega) hsz4 ?_)
  intro v5 w5 ho5 hk5
  have HK35 : Hid (Keeps (fun _ => False) w3 w5) := HK34.out.trans_new hk5 (fun q hq e => by omega)
  have HRM := Lib.hid (ref_new (show ReadsS w5 v5 (l ++ m) from ho5.reads) (by rw [List.length_append]; omega))
  clear ho5 hk5 HO4 HSB HK34 hsz4
  go_wp2_with fail
  refine HRM.out.mono ?_
  rintro e w6 ⟨vy, rfl, hh6⟩
  have HK36 := Lib.hid (HK35.out.trans hh6.out.1)
  have HK6 := Lib.hid (HK3.out.trans HK36.out)
  have HT6 := Lib.hid (HT3.out.keeps HK36.out)
  have HU6 := Lib.hid (HU3.out.keeps HK36.out)
  have HX6 := Lib.hid (HX3.out.keeps HK36.out)
  have HY6 := Lib.hid hh6.out.2
  have HM6 := Lib.hid (HS1.out.1.keeps HK6.out)
  clear HRM hh6 HK35 HK36 HK3 HT3 HU3 HX3 HS0 HS1 HY
  obtain ⟨ma, mc, rfl, hmc, hmr⟩ := HM6.out
  obtain ⟨xa, xc, rfl, hxc, hxr⟩ := HX6.out
  have HYL : Hid ((tabL (l ++ m)).length ≤ 100) := Nat.le_trans (tab_len _) (by rw [List.length_append]; omega)
  obtain ⟨ml, hml⟩ : ∃ ml, m.length = ml := ⟨_, rfl⟩
  obtain ⟨xl, hxl⟩ : ∃ xl, X.length = xl := ⟨_, rfl⟩
  rw [hml] at hmc hmr hm40 HM6 ⊢
  rw [hxl] at hxc hxr hXl HX6 ⊢
  have HML := Lib.hid hml
  have HXL := Lib.hid hxl
  have HMR := Lib.hid hmr
  have HXC := Lib.hid hxr
  have HFI : Hid (∀ s : Str, Calls Try.prog 15 #[.pointer (some ⟨p, 0, none⟩), .string ⟨s.toArray⟩] w6 fun e W' => e = .returned (.int .i64 (atL X s)) ∧ w6 = W') := fun s => names_find HT6.out HXR.out (by rw [hxl]; omega) s
  clear hmr hxr hml hxl
  go_wp2_with fail
  go_loopg [42] ml (fun g t wx => ∃ i : Nat, i ≤ ml ∧ g = ml - i ∧ t = .int .i64 i ∧ wx = w6)
  case atStart => exact ⟨0, Nat.zero_le _, rfl, rfl, rfl⟩
  case round =>
    obtain ⟨i, hi, rfl, rfl, rfl⟩ := hrel
    by_cases hlt : i < ml
    · have hiI : (i : Int) < (ml : Int) := by omega
      obtain ⟨s, hs⟩ : ∃ s, m[i]? = some s := ⟨_, List.getElem?_eq_getElem (by rw [HML.out]; exact hlt)⟩
      obtain ⟨mg, moff, rfl, hmg, hmcc⟩ := HMR.out (by omega)
      have hc : wr.cell? ⟨mg, moff + i, none⟩ = some (.string ⟨s.toArray⟩) := hmcc i s hs
      have hwi : IntKind.i64.wrap ((i : Int) + 1) = (i : Int) + 1 := IntWalk.i64_in _ (by omega)
      have hicap : i < mc := by omega
      have HF1 := Lib.hid (HFI.out s)
      clear hmcc hs
      go_wp2_with fail
      go_loopg [13, 48] xl (fun g av t wx => ∃ q : Nat, q ≤ xl ∧ g = xl - q ∧ t = .int .i64 q ∧ av = .int .i64 (seenL X s q) ∧ wx = wr)
      case atStart => exact ⟨0, Nat.zero_le _, rfl, rfl, by rw [show seenL X s 0 = -1 from by simp [seenL]], rfl⟩
      case round =>
        obtain ⟨q, hq, rfl, rfl, rfl, rfl⟩ := hrel
        by_cases hlt2 : q < xl
        · have hqI : (q : Int) < (xl : Int) := by omega
          obtain ⟨y, hy⟩ : ∃ y, X[q]? = some y := ⟨_, List.getElem?_eq_getElem (by rw [HXL.out]; exact hlt2)⟩
          obtain ⟨xg, xoff, rfl, hxg, hxcc⟩ := HXC.out (by omega)
          have hcy := hxcc q y hy
          rw [show encStr y = .string ⟨y.toArray⟩ from rfl] at hcy
          have hwq : IntKind.i64.wrap ((q : Int) + 1) = (q : Int) + 1 := IntWalk.i64_in _ (by omega)
          have hqcap : q < xc := by omega
          have HST := Lib.hid (seen_step HXR.out s hy)
          clear hxcc hy
          by_cases hys : y = s
          · subst hys
            have HN : Hid (seenL X y (q + 1) = (q : Int)) := by show _ = _; rw [HST.out, if_pos rfl]
            clear HST
            go_wp2_with fail
            go_roundg (xl - (q + 1))
            case measure => omega
            case rel => exact ⟨q + 1, by omega, rfl, by go_num, by rw [HN.out], rfl⟩
          · have hbe : (y == s) = false := beq_eq_false_iff_ne.2 hys
            have HN : Hid (seenL X s (q + 1) = seenL X s q) := by show _ = _; rw [HST.out, if_neg hys]
            clear HST hys
            go_wp2_with fail
            go_roundg (xl - (q + 1))
            case measure => omega
            case rel => exact ⟨q + 1, by omega, rfl, by go_num, by rw [HN.out], rfl⟩
        · obtain rfl : q = xl := by omega
          have hqI : ¬ (q : Int) < (q : Int) := by omega
          have hse : seenL X s q = atL X s := by have := seen_all X s; rw [HXL.out] at this; exact this
          generalize hA : atL X s = A at *
          rw [hse]
          clear hse hA
          go_wp2_with fail
          refine HF1.out.mono ?_
          rintro e w' ⟨rfl, rfl⟩
          go_wp2_with fail
          go_roundg (ml - (i + 1))
          case measure => omega
          case rel => exact ⟨i + 1, by omega, rfl, by go_num, rfl⟩
    · obtain rfl : i = ml := by omega
      have hiI : ¬ (i : Int) < (i : Int) := by omega
      have HW0 : Hid (∃ W0 : World, W0 = wr ∧ Keeps (fun _ => False) wr wr) := ⟨wr, rfl, Keeps.refl _ _⟩
      clear HFI HMR HML HM6 HW0
      go_wp2_with fail
      go_loopg [67] xl (fun g t wx => ∃ q : Nat, q ≤ xl ∧ g = xl - q ∧ t = .int .i64 q ∧ Hid (Keeps (fun _ => False) w wx ∧ Tab wx p X ∧ Tab wx p2 (tabL (l ++ m)) ∧ ReadsS wx (.slice xa xl xc) X ∧ ReadsS wx vy (tabL (l ++ m))))
      case atStart => exact ⟨0, Nat.zero_le _, rfl, rfl, HK6.out, HT6.out, HU6.out, HX6.out, HY6.out⟩
      case round =>
        clear HK6 HT6 HU6 HX6 HY6 HXC
        obtain ⟨q, hq, rfl, rfl, HI⟩ := hrel
        by_cases hlt2 : q < xl
        · have hqI : (q : Int) < (xl : Int) := by omega
          have hwq : IntKind.i64.wrap ((q : Int) + 1) = (q : Int) + 1 := IntWalk.i64_in _ (by omega)
          obtain ⟨y, hy⟩ : ∃ y, X[q]? = some y := ⟨_, List.getElem?_eq_getElem (by rw [HXL.out]; exact hlt2)⟩
          obtain ⟨xa', xc', hxe, hxle, hxr⟩ := HI.out.2.2.2.1
          simp only [Value.slice.injEq] at hxe
          obtain ⟨rfl, hxx, rfl⟩ := hxe
          clear hxx
          obtain ⟨xg, xoff, rfl, hxg, hxcc⟩ := hxr (by rw [HXL.out]; omega)
          have hqcap : q < xc := by rw [HXL.out] at hxle; omega
          have hcy := hxcc q y hy
          rw [show encStr y = .string ⟨y.toArray⟩ from rfl] at hcy
          have HGL := Lib.hid (getL_in hy)
          have HYY := Lib.hid hy
          have hS : wr.cell? ⟨xg, xoff + q, none⟩ = some (.string ⟨y.toArray⟩) ∧ Hid (Keeps (fun _ => False) wr wr ∧ xg < wr.heap.size) := ⟨hcy, Keeps.refl _ _, hxg⟩
          have HS := Lib.hid hS
          have HI0 := Lib.hid HI.out
          have KS : Hid (∀ W1 W', (W1.cell? ⟨xg, xoff + q, none⟩ = some (.string ⟨y.toArray⟩) ∧ Hid (Keeps (fun _ => False) wr W1 ∧ xg < W1.heap.size)) → Keeps (fun _ => False) W1 W' → (W'.cell? ⟨xg, xoff + q, none⟩ = some (.string ⟨y.toArray⟩) ∧ Hid (Keeps (fun _ => False) wr W' ∧ xg < W'.heap.size))) := fun W1 W' h hk => ⟨(hk.cell (p := ⟨xg, xoff + q, none⟩) h.2.out.2 (fun x => x)).trans h.1, h.2.out.1.trans hk, Nat.lt_of_lt_of_le h.2.out.2 hk.size⟩
          have CA : Hid (∀ (P1 : Prop) (W1 : World), (P1 ∧ Hid (Keeps (fun _ => False) wr W1 ∧ xg < W1.heap.size)) → Calls Try.prog 16 #[.pointer (some ⟨p, 0, none⟩), .int .i64 q] W1 fun e w' => e = .returned (.string ⟨y.toArray⟩) ∧ Keeps (fun _ => False) W1 w') := fun _ W1 h => by
            have c := names_at (HI0.out.2.1.keeps h.2.out.1) (q : Int)
            rw [HGL.out] at c
            refine c.mono ?_
            rintro e w' ⟨rfl, rfl⟩
            exact ⟨rfl, Keeps.refl _ _⟩
          have hyy : (y == y) = true := beq_self_eq_true y
          clear hxr hxcc hcy hy hS HI HGL HYY hxg hxle
          go_upto_region 23 with fail
          go_cut [77] (fun t wx => t = .bool false ∧ Hid (Keeps (fun _ => False) wr wx))
          case first =>
            go_region_held3 (fun w' => w'.cell? ⟨xg, xoff + q, none⟩ = some (.string ⟨y.toArray⟩) ∧ Hid (Keeps (fun _ => False) wr w' ∧ xg < w'.heap.size)) (first | exact KS.out _ _ (by assumption) hk' | exact KS.out _ _ HS.out ((Keeps.refl _ _).drew)) ((go_at_call 16; refine (CA.out _ _ (by assumption)).mono ?_; rintro e w' ⟨rfl, hk'⟩))
            all_goals (go_wp2_with fail; go_meet; rename_i hh; exact ⟨by first | rfl | simp, hh.2.out.1⟩)
          case rest =>
            obtain ⟨rfl, HJ2⟩ := hcut
            have HN := Lib.hid (And.intro (HI0.out.1.trans HJ2.out) (And.intro (HI0.out.2.1.keeps HJ2.out) (And.intro (HI0.out.2.2.1.keeps HJ2.out) (And.intro (HI0.out.2.2.2.1.keeps HJ2.out) (HI0.out.2.2.2.2.keeps HJ2.out)))))
            clear KS CA HS HI0 HJ2
            go_wp2_with fail
            go_roundg (xl - (q + 1))
            case measure => omega
            case rel => exact ⟨q + 1, by omega, rfl, by go_num, HN⟩
        · obtain rfl : q = xl := by omega
          have hqI : ¬ (q : Int) < (q : Int) := by omega
          have hyl := HYL.out
          have hXq : X.length = q := HXL.out
          have hemp : (ByteArray.mk #[]).toList = [] := ByteArray.toList_mk []
          have HA1 := Lib.hid (names_all HI.out.2.1 (by omega))
          have HI0 := Lib.hid HI.out
          clear HI
          go_wp2_with fail
          refine HA1.out.mono ?_
          rintro e w7 ⟨va, rfl, h7⟩
          have HK7 := Lib.hid h7.out.1
          have HSM1 := Lib.hid (ref_same h7.out.2.reads (HI0.out.2.2.2.1.keeps HK7.out) (by omega) rfl)
          clear HA1 h7
          go_wp2_with fail
          refine HSM1.out.mono ?_
          rintro e w' ⟨rfl, nq, rfl⟩
          have HK8 := Lib.hid (HK7.out.drewN nq)
          generalize w7.drewN nq = w8 at *
          have HA2 := Lib.hid (names_all (HI0.out.2.2.1.keeps HK8.out) (by omega))
          clear HSM1 HK7
          go_wp2_with fail
          refine HA2.out.mono ?_
          rintro e w9 ⟨vb, rfl, h9⟩
          have HK9 := Lib.hid (HK8.out.trans h9.out.1)
          have HSM2 := Lib.hid (ref_same h9.out.2.reads (HI0.out.2.2.2.2.keeps HK9.out) (by omega) rfl)
          clear HA2 h9 HK8
          go_wp2_with fail
          refine HSM2.out.mono ?_
          rintro e w' ⟨rfl, nq, rfl⟩
          have HK10 := Lib.hid (HK9.out.drewN nq)
          generalize w9.drewN nq = w10 at *
          have HT10 := Lib.hid (HI0.out.2.1.keeps HK10.out)
          have HLE := names_len HT10.out
          rw [hXq] at HLE
          have HLE := Lib.hid HLE
          have HAT1 := names_at HT10.out (-1)
          rw [getL_neg] at HAT1
          have HAT1 := Lib.hid HAT1
          have HAT2 := names_at HT10.out (X.length : Int)
          rw [getL_end, hXq] at HAT2
          have HAT2 := Lib.hid HAT2
          have HF := Lib.hid (names_fresh HT10.out HXR.out (by omega) k hk0 hk1)
          clear HSM2 HK9 hXq
          go_wp2_with fail
          refine HLE.out.mono ?_
          rintro e w' ⟨rfl, rfl⟩
          go_wp2_with fail
          refine HAT1.out.mono ?_
          rintro e w' ⟨rfl, rfl⟩
          go_wp2_with fail
          refine HAT2.out.mono ?_
          rintro e w' ⟨rfl, rfl⟩
          go_wp2_with fail
          refine HF.out.mono ?_
          rintro e w11 ⟨vf, rfl, h11⟩
          have HK11 := Lib.hid (HK10.out.trans h11.out.1)
          have HVF := Lib.hid h11.out.2
          have HRF := Lib.hid (ref_fresh (HI0.out.2.2.2.1.keeps HK11.out) (by rw [HXL.out]; omega) k hk0 hk1)
          clear HLE HAT1 HAT2 HF h11 HT10 HK10
          go_wp2_with fail
          refine HRF.out.mono ?_
          rintro e w12 ⟨vr, rfl, h12⟩
          have HK12 := Lib.hid (HK11.out.trans h12.out.1)
          have hfl := freshL_len X k
          have HSM3 := Lib.hid (ref_same (HVF.out.keeps h12.out.1) h12.out.2 (by omega) rfl)
          clear HRF h12 HVF HK11 hfl
          go_wp2_with fail
          refine HSM3.out.mono ?_
          rintro e w' ⟨rfl, nq, rfl⟩
          have HK13 := Lib.hid (HI0.out.1.trans (HK12.out.drewN nq))
          generalize w12.drewN nq = w13 at *
          clear HSM3 HK12 HI0
          go_wp2_with fail
          refine (HL.out _).mono ?_
          rintro e w14 ⟨rfl, hb⟩
          go_wp2_with fail
          go_ret
          exact ⟨rfl, (HK13.out.below (Nat.le_refl _) (fun _ _ x => x.elim)).trans (hb.mono HK13.out.size)⟩
theorem srcS_row {w : World} {ao : Option Addr} {n cap : Nat} {G : Nat → Nat → Value} (R : IsRow w [.string] ao n cap G) (hz : ao = none → cap = 0) : ∃ l : List Str, l.length = n ∧ SrcS w (.slice ao n cap) l := by
  have key : ∀ i, i < n → ∃ x : Str, G i 0 = encStr x := fun i hi => by
    obtain ⟨s, h, _⟩ := R.ok i 0 _ hi rfl
    exact ⟨s.data.toList, h.trans (enc_str s)⟩
  obtain ⟨f, hf⟩ := choose_lt key
  refine ⟨(List.range n).map f, by simp, ⟨ao, cap, by simp, by have := R.le; simpa using this, fun h0 => ?_⟩, fun n' cap' e => ?_⟩
  · have h0' : 0 < n := by simpa using h0
    obtain ⟨b, off, h1, h2, h3⟩ := R.at_ h0'
    refine ⟨b, off, h1, h2, fun j x hj => ?_⟩
    rw [List.getElem?_map] at hj
    rcases Nat.lt_or_ge j n with hl | hl
    · rw [List.getElem?_range hl] at hj
      simp only [Option.map_some, Option.some.injEq] at hj
      subst hj
      rw [← hf j hl]
      have q := h3 j 0 hl (by decide)
      simpa using q
    · rw [List.getElem?_eq_none (by simpa using hl)] at hj; cases hj
  · simp only [Value.slice.injEq] at e
    rw [← e.2.2]
    exact hz e.1
theorem namesTables_walk (w : World) (ao0 : Option Addr) (n0 cap0 : Nat) (G0 : Nat → Nat → Value) (R0 : IsRow w [.string] ao0 n0 cap0 G0) (z0 : ao0 = none → cap0 = 0) (ao1 : Option Addr) (n1 cap1 : Nat) (G1 : Nat → Nat → Value) (R1 : IsRow w [.string] ao1 n1 cap1 G1) (z1 : ao1 = none → cap1 = 0) (n : Int) (hn0 : -9223372036854775808 ≤ n) (hn1 : n ≤ 9223372036854775807) :
    Calls Try.prog 4 #[.slice ao0 n0 cap0, .slice ao1 n1 cap1, .int .i64 n] w fun e w' => e = .returned (.bool true) ∧ Below w.heap.size w w' := by
  obtain ⟨l, _, hl⟩ := srcS_row R0 z0
  obtain ⟨m, _, hm⟩ := srcS_row R1 z1
  exact namesTables_core w hl hm n hn0 hn1
end Go.Proofs.Ytonkfkgbmlcceaa
