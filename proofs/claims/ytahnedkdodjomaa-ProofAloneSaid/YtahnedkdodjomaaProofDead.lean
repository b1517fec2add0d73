/-
  Why, where no rule may be: less than no principals, or names.
-/
import Derived.Test.YtahnedkdodjomaaProofSel
set_option linter.unusedVariables false
set_option linter.unusedSimpArgs false
set_option linter.unnecessarySimpa false
namespace Go.Proofs.Ytahnedkdodjomaa
open Go.ChangeShapes Go.WideShapes Go.ChangeAt Go.RowKit Go.Deep SetPlain
theorem ruleAt_dead {p k : Int} (hd : p < 0 ∨ k < 0) (rs : List Rl) (i : Int) : (ruleAt p k rs i).2 = false := by
  unfold ruleAt
  split
  · show rightB p k _ = false
    unfold rightB
    rw [decide_eq_false (by omega), Bool.false_and]
  · rfl
set_option maxRecDepth 100000
set_option maxHeartbeats 1600000
theorem begin_dead {W : World} {p k : Int} {ao : Option Addr} {n cap : Nat} :
    Calls Try.prog 19 #[.int .i64 p, .int .i64 k, .slice ao n cap] W (fun e W' => ∃ kb mb, e = .returned (.pointer (some ⟨kb, 0, none⟩)) ∧ Hid (KnMem W' kb p k ao n cap mb (.slice none 0 0) []) ∧ Hid (Keeps (fun _ => False) W W')) := by
  have HP : Hid (∀ W', W' = (W.alloc (.map #[] 0)).alloc (.cells #[.int .i64 p, .int .i64 k, .slice ao n cap, .map (some W.heap.size), .slice none 0 0] 55) → KnMem W' (W.heap.size + 1) p k ao n cap W.heap.size (.slice none 0 0) [] ∧ Keeps (fun _ => False) W W') := by
    rintro W' rfl
    have k1 : Keeps (fun _ => False) W (W.alloc (.map #[] 0)) := (Keeps.refl _ _).alloc _
    have k2 : Keeps (fun _ => False) (W.alloc (.map #[] 0)) ((W.alloc (.map #[] 0)).alloc (.cells #[.int .i64 p, .int .i64 k, .slice ao n cap, .map (some W.heap.size), .slice none 0 0] 55)) := (Keeps.refl _ _).alloc _
    have hs : (W.alloc (.map #[] 0)).heap.size = W.heap.size + 1 := by simp
    refine ⟨⟨?_, (KnMap.zero W).keeps k2 (fun x => x), TailRow.nil _ _ _⟩, k1.trans k2⟩
    rw [← hs]; exact (MapKept.heap_alloc _ _).1
  go_enter Try.func19, Try.ntmps19
  have hrun : (Instr.makeMap 53 none).run Try.prog W = .ok (.map (some W.heap.size)) (W.alloc (.map #[] 0)) := rfl
  go_wp2_with fail
  go_ret
  exact ⟨_, _, rfl, (HP.out _ rfl).1, (HP.out _ rfl).2⟩
theorem tries_dead {W : World} {kb : Nat} {p k : Int} (hd : p < 0 ∨ k < 0) (hp : p ≤ 64) (hk : k ≤ 64) {ao : Option Addr} {n cap mb : Nat} {vs : Value} {l : List Sp} (h : KnMem W kb p k ao n cap mb vs l) {rs : List Rl} (hrs : rs.length = n) (hcap : n ≤ cap) (hR : RuleRow W ao rs) (i : Int) :
    Calls Try.prog 32 #[.pointer (some ⟨kb, 0, none⟩), .int .i64 i] W (fun e W' => e = .returned (.bool false) ∧ Keeps (fun _ => False) W W') := by
  have HC0 := Lib.hid (krule_spec hp hk h hrs hcap hR i)
  have hx0 := ruleAt_dead hd rs i
  obtain ⟨⟨⟨kind, head, rwho, a, b, via⟩, ok⟩, hx⟩ : ∃ x, ruleAt p k rs i = x := ⟨_, rfl⟩
  rw [hx] at hx0 HC0
  simp only [] at hx0
  subst hx0
  have HC : Hid (Calls Try.prog 33 #[.pointer (some ⟨kb, 0, none⟩), .int .i64 i] W fun e W' => e = .returned (.tuple #[.agg #[.int .i64 kind, .int .i64 head, .int .i64 rwho, .int .i64 a, .int .i64 b, .int .i64 via], .bool false]) ∧ Below W.heap.size W W') := HC0.out
  clear HC0 h hR hx
  go_enter Try.func32, Try.ntmps32
  go_upto_region 1 with fail
  go_wp2_with (go_at_call 33; refine HC.out.mono ?_; rintro e wA ⟨rfl, hbA⟩)
  have hk2 := Keeps.of_below (S := fun _ => False) hbA (Nat.le_refl _)
  have HK := Lib.hid hk2
  clear HC hbA hk2
  go_wp2_with fail
  go_ret
  exact ⟨rfl, HK.out.trans ((Keeps.refl _ _).alloc _)⟩
theorem all_dead {W : World} {kb : Nat} {p k : Int} (hd : p < 0 ∨ k < 0) (hp : p ≤ 64) (hk : k ≤ 64) {ao : Option Addr} {n cap mb : Nat} {vs : Value} {l : List Sp} (h : KnMem W kb p k ao n cap mb vs l) {rs : List Rl} (hrs : rs.length = n) (hn : n < 1000000000) (hcap : n ≤ cap) (hR : RuleRow W ao rs) :
    Calls Try.prog 23 #[.pointer (some ⟨kb, 0, none⟩)] W (fun e W' => e = .returned (.tuple #[]) ∧ Keeps (fun _ => False) W W') := by
  have HT : Hid (∀ W', Keeps (fun _ => False) W W' → ∀ i, Calls Try.prog 32 #[.pointer (some ⟨kb, 0, none⟩), .int .i64 i] W' (fun e W2 => e = .returned (.bool false) ∧ Keeps (fun _ => False) W W2)) := fun W' hk' i => by
    refine (tries_dead hd hp hk (h.quiet hk') hrs hcap (hR.keeps (hk'.below (Nat.le_refl _) (fun _ _ x => x)) (fun _ _ _ h => h)) i).mono ?_
    rintro e W2 ⟨rfl, h2⟩
    exact ⟨rfl, hk'.trans h2⟩
  have HH : Hid (∀ W', Keeps (fun _ => False) W W' → W'.cell? ⟨kb, 2, none⟩ = some (.slice ao n cap)) := fun W' hk' => (h.quiet hk').cells.2.2.1
  clear h hR
  go_enter Try.func23, Try.ntmps23
  go_wp2_with fail
  go_loopg [2] 1 (fun g t wy => ∃ (fl : Bool), t = .bool fl ∧ g = (if fl = true then 1 else 0) ∧ Hid (Keeps (fun _ => False) W wy))
  case atStart => exact ⟨true, rfl, rfl, Keeps.refl _ _⟩
  case round =>
    obtain ⟨fl, rfl, rfl, HK⟩ := hrel
    cases fl with
    | false =>
      go_wp2_with fail
      go_end0
      exact ⟨rfl, HK.out⟩
    | true =>
      have c2 := HH.out _ HK.out
      go_wp2_with fail
      go_loopg [2, 10] n (fun g s t wy => ∃ (j : Nat), j ≤ n ∧ g = n - j ∧ s = .bool false ∧ t = .int .i64 j ∧ Hid (Keeps (fun _ => False) W wy))
      case atStart => exact ⟨0, Nat.zero_le _, rfl, rfl, rfl, HK.out⟩
      case round =>
        clear HK c2
        obtain ⟨j, hj, rfl, rfl, rfl, HK⟩ := hrel
        by_cases hlt : j < n
        · have hjI : (j : Int) < (n : Int) := by omega
          have HC := Lib.hid (HT.out _ HK.out j)
          clear HK
          go_wp2_with (go_at_call 32; refine HC.out.mono ?_; rintro e wC ⟨rfl, hk3⟩; clear HC)
          go_roundg (n - (j + 1))
          case measure => omega
          case rel => exact ⟨j + 1, by omega, rfl, rfl, by go_num, hk3⟩
        · have hjI : ¬ (j : Int) < (n : Int) := by omega
          go_wp2_with fail
          go_roundg 0
          case measure => simp
          case rel => exact ⟨false, rfl, rfl, HK.out⟩
theorem why_dead {W : World} {p k : Int} (hd : p < 0 ∨ k < 0) (hp : p ≤ 64) (hk : k ≤ 64) {ao : Option Addr} {n cap : Nat} {rs : List Rl} (hR : RuleRow W ao rs) (hrs : rs.length = n) (hcap : n ≤ cap) (hn : n < 1000000000) {a b : Int} (ha : I64 a) (hb : I64 b) :
    Calls Try.prog 12 #[.int .i64 p, .int .i64 k, .slice ao n cap, .int .i64 a, .int .i64 b] W (fun e W' => e = .returned (.tuple #[.slice none 0 0, .bool false]) ∧ Below W.heap.size W W') := by
  have HB := Lib.hid (@begin_dead W p k ao n cap)
  have HALL : Hid (∀ W' kb mb, Keeps (fun _ => False) W W' → KnMem W' kb p k ao n cap mb (.slice none 0 0) [] → Calls Try.prog 23 #[.pointer (some ⟨kb, 0, none⟩)] W' (fun e W2 => e = .returned (.tuple #[]) ∧ Keeps (fun _ => False) W' W2)) := fun W' kb mb hk' h =>
    all_dead hd hp hk h hrs hn hcap (hR.keeps (hk'.below (Nat.le_refl _) (fun _ _ x => x)) (fun _ _ _ h => h))
  clear hR
  have hkey := fact_key ha hb
  go_enter Try.func12, Try.ntmps12
  go_upto_region 1 with fail
  go_wp2_with (go_at_call 19; refine HB.out.mono ?_; rintro e wA ⟨kb, mb, rfl, HM, HKA⟩)
  have hkx : Keeps (fun _ => False) wA (wA.alloc (.cells #[.pointer (some ⟨kb, 0, none⟩)] 48)) := (Keeps.refl _ _).alloc _
  have hx := (MapKept.heap_alloc wA (.cells #[.pointer (some ⟨kb, 0, none⟩)] 48)).1
  have HC := Lib.hid (HALL.out _ _ _ (HKA.out.trans hkx) (HM.out.quiet hkx))
  have HXA : Hid (∀ wB, Keeps (fun _ => False) (wA.alloc (.cells #[.pointer (some ⟨kb, 0, none⟩)] 48)) wB → KnMem wB kb p k ao n cap mb (.slice none 0 0) [] ∧ wB.cell? ⟨wA.heap.size, 0, none⟩ = some (.pointer (some ⟨kb, 0, none⟩)) ∧ Keeps (fun _ => False) W wB) := fun wB hk => by
    have e := (hk.block _ (lt_of_heap hx) (fun x => x)).trans hx
    exact ⟨(HM.out.quiet hkx).quiet hk, by rw [cell_of_heap e]; rfl, (HKA.out.trans hkx).trans hk⟩
  clear hkx hx HB HALL HM HKA
  refine HC.out.mono ?_
  rintro e wB ⟨rfl, hkB⟩
  obtain ⟨hm, x0, hkW⟩ := HXA.out _ hkB
  have HKW := Lib.hid hkW
  obtain ⟨_, _, _, k3, _⟩ := hm.cells
  obtain ⟨D, hown, hD⟩ := hm.map
  obtain ⟨hhas, hat0⟩ := hD a b ha hb
  clear hD hm hkB hkW HC HXA
  go_wp2_with (at_lookup; refine wpList_lookup_own_ok_int _ rfl _ _ 53 rfl 57 3 .i64 fact_keyed Try.underlying53 Try.underlying3 (by kernel_rfl) mb 0 D rfl hown _ _ rfl hkey ?_; intro c hat hwc; rw [hhas])
  refine bodyPost_ret (v := .tuple #[.slice none 0 0, .bool false]) (by simp [results, Try.results12, go_sem]) rfl ⟨rfl, HKW.out.below (Nat.le_refl _) (fun _ _ x => x)⟩
end Go.Proofs.Ytahnedkdodjomaa
