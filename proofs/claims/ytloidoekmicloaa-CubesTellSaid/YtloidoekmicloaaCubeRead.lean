/-
  A text as a cube; which cube is inside which.
-/
import Derived.Test.YtloidoekmicloaaMX
import Derived.Test.YtloidoekmicloaaCubeCovers
set_option linter.unusedVariables false
set_option linter.unusedSimpArgs false
set_option linter.unnecessarySimpa false
namespace Go.Proofs.Ytloidoekmicloaa
open Go.ChangeShapes Go.WideShapes Go.ChangeAt Go.RowKit Go.Deep NodePlain
/-- What a sign tells. -/
def rdC (c : UInt8) : Int := Lib.indexByte [45, 48, 49] c - 1
theorem rdC_cases (c : UInt8) : (c = 45 ∧ Lib.indexByte [45, 48, 49] c = 0) ∨ (c = 48 ∧ Lib.indexByte [45, 48, 49] c = 1) ∨ (c = 49 ∧ Lib.indexByte [45, 48, 49] c = 2) ∨ (c ≠ 45 ∧ c ≠ 48 ∧ c ≠ 49 ∧ Lib.indexByte [45, 48, 49] c = -1) := by
  by_cases h1 : c = 45
  · subst h1; left; exact ⟨rfl, by decide⟩
  by_cases h2 : c = 48
  · subst h2; right; left; exact ⟨rfl, by decide⟩
  by_cases h3 : c = 49
  · subst h3; right; right; left; exact ⟨rfl, by decide⟩
  right; right; right
  refine ⟨h1, h2, h3, ?_⟩
  have e1 : ((45 : UInt8) == c) = false := by simpa using fun h : (45 : UInt8) = c => h1 h.symm
  have e2 : ((48 : UInt8) == c) = false := by simpa using fun h : (48 : UInt8) = c => h2 h.symm
  have e3 : ((49 : UInt8) == c) = false := by simpa using fun h : (49 : UInt8) = c => h3 h.symm
  simp [Lib.indexByte, e1, e2, e3]
/-- Is a sign a cube's? -/
def sgB (c : UInt8) : Bool := decide (0 ≤ Lib.indexByte [45, 48, 49] c)
def readC (l : List UInt8) : List Int := l.map rdC
def textB (l : List UInt8) : Bool := decide (l.length ≤ 61) && l.all sgB
theorem chC_rd {c : UInt8} (h : sgB c = true) : chC (rdC c) = c := by
  unfold sgB at h
  rw [decide_eq_true_eq] at h
  unfold rdC chC
  rcases rdC_cases c with ⟨rfl, e⟩ | ⟨rfl, e⟩ | ⟨rfl, e⟩ | ⟨_, _, _, e⟩
  · rw [e]; rfl
  · rw [e]; rfl
  · rw [e]; rfl
  · omega
theorem rd_three {c : UInt8} (h : sgB c = true) : rdC c = 0 ∨ rdC c = 1 ∨ rdC c = -1 := by
  unfold sgB at h
  rw [decide_eq_true_eq] at h
  unfold rdC
  rcases rdC_cases c with ⟨rfl, e⟩ | ⟨rfl, e⟩ | ⟨rfl, e⟩ | ⟨_, _, _, e⟩ <;> omega
theorem print_read {l : List UInt8} (h : textB l = true) : printC (readC l) = l := by
  unfold textB at h
  rw [Bool.and_eq_true, decide_eq_true_eq, List.all_eq_true] at h
  have hr : rightC ((readC l).length : Int) (readC l) = true := rightC_iff.2 ⟨by omega, by unfold readC; rw [List.length_map]; omega, rfl, fun x hx => by
    obtain ⟨c, hc, rfl⟩ := List.mem_map.1 hx
    exact rd_three (h.2 c hc)⟩
  unfold printC
  rw [hr, if_pos rfl]
  unfold txtC readC
  rw [List.map_map]
  have : ∀ c, c ∈ l → (chC ∘ rdC) c = id c := fun c hc => chC_rd (h.2 c hc)
  rw [List.map_congr_left this, List.map_id]
theorem rd_chC {x : Int} (h : x = 0 ∨ x = 1 ∨ x = -1) : rdC (chC x) = x ∧ sgB (chC x) = true := by
  rcases h with rfl | rfl | rfl <;> decide
theorem read_print {c : List Int} (h : rightC (c.length : Int) c = true) : readC (txtC c) = c ∧ textB (txtC c) = true := by
  obtain ⟨_, h1, _, h3⟩ := rightC_iff.1 h
  constructor
  · unfold readC txtC
    rw [List.map_map]
    have : ∀ x, x ∈ c → (rdC ∘ chC) x = id x := fun x hx => (rd_chC (h3 x hx)).1
    rw [List.map_congr_left this, List.map_id]
  · unfold textB
    rw [Bool.and_eq_true, decide_eq_true_eq, List.all_eq_true]
    refine ⟨by unfold txtC; rw [List.length_map]; omega, fun x hx => ?_⟩
    obtain ⟨y, hy, rfl⟩ := List.mem_map.1 hx
    exact (rd_chC (h3 y hy)).2
/-- A row of its own reads. -/
theorem own_reads {W : World} {base n : Nat} {v : Value} {c : List Int} (h : W.ownsRow base 3 1 v n (crow c).toList) (hn : c.length = n) : ReadsI W v c := by
  obtain ⟨hl, h | ⟨g, cap, cur, rfl, _, hh, hle, _, hs, ht⟩⟩ := h
  · obtain ⟨rfl, h0⟩ := h
    exact ⟨none, 0, by rw [hn, h0], by omega, fun h => by omega⟩
  · have hsz : cur.size = cap := by simpa using hs
    refine ⟨_, _, by rw [hn], by omega, fun _ => ⟨g, 0, rfl, lt_of_heap hh, fun j y hj => ?_⟩⟩
    have hjk : j < n := by have := (List.getElem?_eq_some_iff.1 hj).1; omega
    rw [Nat.zero_add, cell_of_heap hh]
    have e2 : (cur.toList.take (n * 1))[j]? = (crow c).toList[j]? := by rw [ht]
    rw [List.getElem?_take_of_lt (by omega), Array.getElem?_toList, Array.getElem?_toList, crow_get hj] at e2
    exact e2
theorem crow_app (a b : List Int) : (crow (a ++ b)).toList = (crow a).toList ++ (crow b).toList := by unfold crow; simp
theorem one_sign {l : List UInt8} {i : Nat} {c : UInt8} (h : l[i]? = some c) : (⟨l.toArray⟩ : ByteArray).extract i (i + 1) = ⟨#[c]⟩ := by
  have hi := (List.getElem?_eq_some_iff.1 h).1
  rw [ByteArray.extract_mk, Nat.add_sub_cancel_left, List.take_one, List.head?_drop, h]
  rfl
/-- A sign behind a text. -/
theorem app_sign (l : List UInt8) (c : UInt8) : (⟨l.toArray⟩ : ByteArray) ++ ⟨#[c]⟩ = ⟨(l ++ [c]).toArray⟩ := by
  apply ByteArray.ext
  simp
/-- A number behind a row of its own, in a row that is made for it. -/
theorem own_push {W : World} {base : Nat} {v : Value} {n : Nat} {c : List Int} (h : W.ownsRow base 3 1 v n (crow c).toList) (x : Int) {ops : Array Oper} {rest : List Oper} {o : Oper} {a : Act} {Q : Exit → Act → World → Prop} (hgd : o.guard = none) (s y : Operand)
    (ho : o.op = .call { callee := .builtin .append, args := #[s, y], argTypes := #[27, 27] }) (hs : a.eval s = v) (hy : a.eval y = .slice (some ⟨W.heap.size, 0, none⟩) 1 1) (hn : n ≤ 1000000) (hbase : base ≤ W.heap.size)
    (K : ∀ v' w', w'.ownsRow base 3 1 v' (n + 1) (crow (c ++ [x])).toList → Keeps (fun q => base ≤ q) W w' → wpList Try.prog ops Q rest (a.put o.dst v') w') : wpList Try.prog ops Q (o :: rest) a (W.alloc (.cells #[.int .i64 x] 3)) := by
  obtain ⟨i0, hi0, hz0, hz1, hz2⟩ := info_parts iinfo
  have hal := (MapKept.heap_alloc W (.cells #[.int .i64 x] 3)).1
  have hka : Keeps (fun _ => False) W (W.alloc (.cells #[.int .i64 x] 3)) := (Keeps.refl _ _).alloc _
  have hown : (W.alloc (.cells #[.int .i64 x] 3)).ownsRow base 3 1 v n (crow c).toList := ownsRow_keeps' h hka (fun _ _ x => x)
  refine wpList_append_own _ hgd s y 27 ho base 3 i0 (.int .i64 0) 1 8 Try.underlying27 hi0 hz0 hz1 hz2 rfl (by decide) v n (crow c).toList hs hown ⟨W.heap.size, 0, none⟩ 1 1 [.int .i64 x] hy rfl (fun j u hj => ?_) (fun u hu => ?_) (by unfold maxLen; omega) (by omega) (Nat.le_trans hbase hka.size) (fun v' w' h1 h2 _ => K v' w' ?_ ?_)
  · match j, hj with
    | 0, hj => simp only [List.getElem?_cons_zero, Option.some.injEq] at hj; subst hj; rw [Addr.add_lit, cell_of_heap hal]; rfl
    | j + 1, hj => simp at hj
  · simp only [List.mem_singleton] at hu
    subst hu
    rfl
  · rw [crow_app]
    exact h1
  · exact (hka.mono (fun _ _ x => x.elim)).trans_new (keeps_grown h2) (fun q hq e => (own_block hown q e))
/-- What Read leaves. -/
def ReadTo (W : World) (l : List UInt8) (o : Bool) (e : Ending) (W' : World) : Prop :=
  ∃ ao n cap, e = .returned (.tuple #[.slice ao n cap, .bool o]) ∧ Hid (Keeps (fun _ => False) W W' ∧ (o = true → ReadsI W' (.slice ao n cap) (readC l)) ∧ (o = false → n = 0))
section
variable {W : World}
set_option maxRecDepth 100000
set_option maxHeartbeats 1600000
theorem cread_spec (l : List UInt8) (hl : l.length ≤ 1000000) :
    Calls Try.prog 19 #[.string ⟨l.toArray⟩] W (ReadTo W l (textB l)) := by
  obtain ⟨n, hn⟩ : ∃ n, l.length = n := ⟨_, rfl⟩
  have hsz : (⟨l.toArray⟩ : ByteArray).size = n := by rw [← hn]; simp [ByteArray.size]
  by_cases h61 : 61 < n
  · have hB : textB l = false := by unfold textB; rw [decide_eq_false (by omega)]; rfl
    have h61I : (61 : Int) < (n : Int) := by omega
    rw [hB]
    go_enter Try.func19, Try.ntmps19
    go_wp2_with fail
    go_ret2
    exact ⟨none, 0, 0, rfl, Keeps.refl _ _, fun h => (by cases h), fun _ => rfl⟩
  · have h61I : ¬ (61 : Int) < (n : Int) := by omega
    obtain ⟨res, hres⟩ : ∃ res, textB l = res := ⟨_, rfl⟩
    have HB := Lib.hid hres
    rw [hres]
    have HN := Lib.hid hn
    have HD : Hid (l.all sgB = true → textB l = true) := fun h => by unfold textB; rw [h, decide_eq_true (by omega)]; rfl
    have HO : Hid (∀ (i : Nat) (c : UInt8), l[i]? = some c → sgB c = false → textB l = false) := fun i c hc h => by
      cases e : textB l with
      | false => rfl
      | true =>
        unfold textB at e
        rw [Bool.and_eq_true, List.all_eq_true] at e
        rw [e.2 c (List.mem_of_getElem? hc)] at h
        cases h
    have HS0 : Hid (∀ w : World, (w.alloc (.cells #[] 3)).ownsRow w.heap.size 3 1 (.slice (some ⟨w.heap.size, 0, none⟩) 0 0) 0 (crow []).toList) := fun w => ⟨by simp [crow], .inr ⟨w.heap.size, 0, #[], rfl, Nat.le_refl _, (MapKept.heap_alloc w _).1, Nat.le_refl _, by unfold maxLen; omega, by simp, by simp [crow]⟩⟩
    clear hn hres
    go_enter Try.func19, Try.ntmps19
    go_wp2_with fail
    go_loopg [4, 13] n (fun g s t wy => ∃ (i : Nat) (v : Value), i ≤ n ∧ g = n - i ∧ v = s ∧ t = .int .i64 i ∧ Hid (wy.ownsRow W.heap.size 3 1 v i (crow (readC (l.take i))).toList ∧ Keeps (fun q => W.heap.size ≤ q) W wy ∧ (l.take i).all sgB = true))
    case atStart => exact ⟨0, _, Nat.zero_le _, rfl, rfl, rfl, HS0.out W, ((Keeps.refl (fun _ => False) W).alloc _).mono (fun _ _ x => x.elim), rfl⟩
    case round =>
      clear HS0
      obtain ⟨i, v, hi, rfl, rfl, rfl, HH⟩ := hrel
      by_cases hlt : i < n
      · have hiI : (i : Int) < (n : Int) := by omega
        have hwi : IntKind.i64.wrap ((i : Int) + 1) = (i : Int) + 1 := IntWalk.i64_in _ (by omega)
        obtain ⟨c, hc⟩ : ∃ c, l[i]? = some c := ⟨_, List.getElem?_eq_getElem (by have := HN.out; omega)⟩
        have hone := one_sign hc
        have HIX := Lib.hid (shelfstrings_Index_one ⟨#[45, 48, 49]⟩ c wr)
        have HC := Lib.hid hc
        have hidx := rdC_cases c
        have hlow : -1 ≤ Lib.indexByte [45, 48, 49] c ∧ Lib.indexByte [45, 48, 49] c ≤ 2 := by omega
        have hrd : rdC c = Lib.indexByte [45, 48, 49] c - 1 := rfl
        have hsg : sgB c = decide (0 ≤ Lib.indexByte [45, 48, 49] c) := rfl
        have e0 : (⟨#[45, 48, 49]⟩ : ByteArray).data.toList = [45, 48, 49] := rfl
        rw [e0] at HIX
        generalize Lib.indexByte [45, 48, 49] c = x at HIX hlow hrd hsg
        clear hc hidx e0
        have hsl : (i : Int) + 1 ≤ (n : Int) := by omega
        by_cases hx : x < 0
        · have hr : res = false := by rw [← HB.out]; exact HO.out i c HC.out (by rw [hsg]; exact decide_eq_false (by omega))
          subst hr
          have HK : Hid (Keeps (fun _ => False) W wr) := (Keeps.refl (fun _ => False) W).trans_new HH.out.2.1 (fun q hq e => by omega)
          clear HH hrd hsg
          go_wp2_with (go_at_call 43; refine HIX.out.mono ?_; rintro e wA ⟨rfl, rfl⟩)
          clear HIX
          go_ret2
          exact ⟨none, 0, 0, rfl, HK.out, fun h => (by cases h), fun _ => rfl⟩
        · have hx1 : 0 ≤ x := by omega
          have hwx : IntKind.i64.wrap (x - 1) = x - 1 := IntWalk.i64_in _ (by omega)
          have hown := HH.out.1
          have hbase : W.heap.size ≤ wr.heap.size := HH.out.2.1.size
          have HT : Hid (readC (l.take (i + 1)) = readC (l.take i) ++ [x - 1] ∧ (l.take (i + 1)).all sgB = true) := by
            constructor
            · unfold readC
              rw [List.take_add_one, HC.out]
              simp [hrd]
            · rw [List.take_add_one, HC.out, List.all_append, HH.out.2.2]
              simp [hsg, hx1]
          have HKP := Lib.hid HH.out.2.1
          clear HH hrd hsg
          have hin : i ≤ 1000000 := by omega
          go_wp2_with (first | (go_at_call 43; refine HIX.out.mono ?_; rintro e wA ⟨rfl, rfl⟩) | (at_builtin; refine own_push hown (x - 1) rfl _ _ rfl rfl rfl hin hbase ?_))
          intro v2 w2 ho2 hk2
          have HN2 : Hid (w2.ownsRow W.heap.size 3 1 v2 (i + 1) (crow (readC (l.take (i + 1)))).toList ∧ Keeps (fun q => W.heap.size ≤ q) W w2 ∧ (l.take (i + 1)).all sgB = true) := ⟨by rw [HT.out.1]; exact ho2, HKP.out.trans hk2, HT.out.2⟩
          clear ho2 hk2 hown HT HKP HIX
          go_wp2_with fail
          go_roundg (n - (i + 1))
          case measure => omega
          case rel => exact ⟨i + 1, _, by omega, rfl, rfl, by go_num, HN2⟩
      · obtain rfl : i = n := by omega
        have hiI : ¬ (i : Int) < (i : Int) := by omega
        have hr : res = true := by
          rw [← HB.out]
          refine HD.out ?_
          rw [← HH.out.2.2, ← HN.out, List.take_length]
        subst hr
        have hRD : ReadsI wr v (readC l) := own_reads (by have h := HH.out.1; rw [show l.take i = l by rw [← HN.out, List.take_length]] at h; exact h) (by unfold readC; rw [List.length_map]; exact HN.out)
        have HK : Hid (Keeps (fun _ => False) W wr) := (Keeps.refl (fun _ => False) W).trans_new HH.out.2.1 (fun q hq e => by omega)
        obtain ⟨ao, cap, rfl, hcap, hrd⟩ := hRD
        have HR : Hid (ReadsI wr (.slice ao (readC l).length cap) (readC l)) := ⟨ao, cap, rfl, hcap, hrd⟩
        clear HH hrd hcap
        go_wp2_with fail
        go_ret2
        exact ⟨ao, (readC l).length, cap, rfl, HK.out, fun _ => HR.out, fun h => (by cases h)⟩
end
end Go.Proofs.Ytloidoekmicloaa
