/-
  Two that rules come to in orders of their own; a call of none.
-/
import Derived.Test.YtaabmkebbnkonaaDoorLiveCopy
import Derived.Test.YtaabmkebbnkonaaDoorLivePlain2
set_option linter.unusedVariables false
set_option linter.unusedSimpArgs false
set_option linter.unnecessarySimpa false
namespace Go.Proofs.YtaabmkebbnkonaaDoor
open Go.ChangeShapes Go.WideShapes Go.ChangeAt Go.RowKit Go.Deep SetPlain
/-- What the law has told two: each has those of the first and of the last that may be. -/
structure TwL (W0 W : World) (la lb P K : Nat) (rules : List Rl) (j : Nat) (ra rb : List Rl) (FA FB : Nat → Prop) : Prop where
  a : LvS W0 W la P K ra FA
  b : LvS W0 W lb P K rb FB
  dis : ∀ k, FA k → ¬ FB k
  ina : ∀ x, x ∈ ra ↔ rightB P K x = true ∧ x ∈ rules.take j
  inb : ∀ x, x ∈ rb ↔ rightB P K x = true ∧ x ∈ rules.drop (rules.length - j)
  lena : ra.length ≤ j
  lenb : rb.length ≤ j
theorem AddR.mem {P K : Nat} {rs rs' : List Rl} {r : Rl} {ans : List (Nat × Nat)} {code : Int} (h : AddR P K rs r rs' ans code) (x : Rl) : x ∈ rs' ↔ x ∈ rs ∨ (rightB P K x = true ∧ x = r) := by
  rcases h with ⟨h1, rfl, _⟩ | ⟨h1, h2, rfl, _⟩ | ⟨h1, h2, rfl, _⟩
  · constructor
    · exact .inl
    · rintro (h | ⟨h, rfl⟩)
      · exact h
      · rw [h1] at h; cases h
  · constructor
    · exact .inl
    · rintro (h | ⟨h, rfl⟩)
      · exact h
      · exact h2
  · rw [List.mem_append, List.mem_singleton]
    constructor
    · rintro (h | rfl)
      · exact .inl h
      · exact .inr ⟨h1, rfl⟩
    · rintro (h | ⟨_, rfl⟩)
      · exact .inl h
      · exact .inr rfl
section
variable {W0 W W' : World} {la lb P K j : Nat} {rules ra rb ra' rb' : List Rl} {FA FB FA' FB' : Nat → Prop}
theorem LvS.beside (h : LvS W0 W lb P K rb FB) (k0 : Keeps (fun _ => False) W0 W') (hm : Keeps FA W W') (hd : ∀ k, FB k → ¬ FA k) : LvS W0 W' lb P K rb FB := ⟨h.is.keeps hm hd, k0, h.fp⟩
theorem MvF.dis (hm : MvF W W' FA FA') (hd : ∀ k, FA k → ¬ FB k) (hb : ∀ k, FB k → k < W.heap.size) : ∀ k, FA' k → ¬ FB k := fun k hk hb2 => by
  rcases hm.fp k hk with h | h
  · exact hd k h hb2
  · have := hb k hb2; omega
theorem TwL.quiet (h : TwL W0 W la lb P K rules j ra rb FA FB) (hk : Keeps (fun _ => False) W W') : TwL W0 W' la lb P K rules j ra rb FA FB := ⟨h.a.quiet hk, h.b.quiet hk, h.dis, h.ina, h.inb, h.lena, h.lenb⟩
/-- The first one has taken a rule. -/
theorem TwL.first (h : TwL W0 W la lb P K rules j ra rb FA FB) {r : Rl} (hr : rules[j]? = some r) (hl : LvS W0 W' la P K ra' FA') (hm : MvF W W' FA FA') {ans : List (Nat × Nat)} {code : Int} (ha : AddR P K ra r ra' ans code) :
    (LvS W0 W' lb P K rb FB ∧ (∀ k, FA' k → ¬ FB k)) ∧ (∀ x, x ∈ ra' ↔ rightB P K x = true ∧ x ∈ rules.take (j + 1)) ∧ ra'.length ≤ j + 1 := by
  refine ⟨⟨h.b.beside hl.kp hm.keeps (fun k hb ha => h.dis k ha hb), hm.dis h.dis h.b.is.lt⟩, fun x => ?_, Nat.le_trans ha.len (by have := h.lena; omega)⟩
  rw [ha.mem, h.ina, List.take_add_one, hr, List.mem_append]
  simp only [Option.toList_some, List.mem_singleton]
  constructor
  · rintro (⟨h1, h2⟩ | ⟨h1, h2⟩)
    · exact ⟨h1, .inl h2⟩
    · exact ⟨h1, .inr h2⟩
  · rintro ⟨h1, h2 | h2⟩
    · exact .inl ⟨h1, h2⟩
    · exact .inr ⟨h1, h2⟩
theorem drop_back {α : Type} {l : List α} {j : Nat} {r : α} (hj : j < l.length) (hr : l[l.length - 1 - j]? = some r) : l.drop (l.length - (j + 1)) = r :: l.drop (l.length - j) := by
  have hlt : l.length - (j + 1) < l.length := by omega
  rw [List.drop_eq_getElem_cons hlt, show l.length - (j + 1) + 1 = l.length - j by omega]
  congr 1
  rw [show l.length - 1 - j = l.length - (j + 1) by omega, List.getElem?_eq_getElem hlt] at hr
  exact Option.some.inj hr
/-- Both have taken one. -/
theorem TwL.both (h : LvS W0 W la P K ra FA) (hb : LvS W0 W lb P K rb FB) (hd : ∀ k, FA k → ¬ FB k) (ina : ∀ x, x ∈ ra ↔ rightB P K x = true ∧ x ∈ rules.take (j + 1)) (hla : ra.length ≤ j + 1)
    (inb : ∀ x, x ∈ rb ↔ rightB P K x = true ∧ x ∈ rules.drop (rules.length - j)) (hlb : rb.length ≤ j) (hj : j < rules.length) {r : Rl} (hr : rules[rules.length - 1 - j]? = some r) (hl : LvS W0 W' lb P K rb' FB') (hm : MvF W W' FB FB') {ans : List (Nat × Nat)} {code : Int} (ha : AddR P K rb r rb' ans code) :
    TwL W0 W' la lb P K rules (j + 1) ra rb' FA FB' := by
  refine ⟨h.beside hl.kp hm.keeps (fun k => hd k), hl, fun k ha hb2 => hm.dis (fun k hb ha => hd k ha hb) h.is.lt k hb2 ha, ina, fun x => ?_, hla, Nat.le_trans ha.len (by omega)⟩
  rw [ha.mem, inb, drop_back hj hr, List.mem_cons]
  constructor
  · rintro (⟨h1, h2⟩ | ⟨h1, h2⟩)
    · exact ⟨h1, .inr h2⟩
    · exact ⟨h1, .inl h2⟩
  · rintro ⟨h1, h2 | h2⟩
    · exact .inr ⟨h1, h2⟩
    · exact .inl ⟨h1, h2⟩
/-- At the end both have the same ones. -/
theorem TwL.same (h : TwL W0 W la lb P K rules rules.length ra rb FA FB) : (∀ x, x ∈ ra ↔ x ∈ rb) ∧ ra.length = rb.length := by
  have e : ∀ x, x ∈ ra ↔ x ∈ rb := fun x => by
    rw [h.ina, h.inb, List.take_length, Nat.sub_self, List.drop_zero]
  exact ⟨e, ((List.perm_ext_iff_of_nodup h.a.is.nodup h.b.is.nodup).2 e).length_eq⟩
end
theorem Der.same {K : Nat} {rs ss : List Rl} (h : ∀ r, r ∈ rs ↔ r ∈ ss) (i c : Nat) : Der K rs i c ↔ Der K ss i c := ⟨Der.mono fun r hr => (h r).1 hr, Der.mono fun r hr => (h r).2 hr⟩
/-- Who comes is who is in the greater one alone. -/
theorem diffRow_cnt (A B : Nat → Nat → Bool) (i : Nat) (h : ∀ c, B i c = true → A i c = true) : ∀ P, (diffRow B i (listTo (A i) P)).length + cnt (B i) P = cnt (A i) P
  | 0 => rfl
  | P + 1 => by
    have ih := diffRow_cnt A B i h P
    have e : listTo (A i) (P + 1) = listTo (A i) P ++ (if A i P = true then [P] else []) := by
      rw [listTo]
      split <;> simp
    rw [e]
    unfold cnt
    cases hA : A i P with
    | true =>
      cases hB : B i P with
      | true =>
        rw [if_pos rfl, diffRow_snoc, hB, if_pos rfl, List.append_nil]
        simp only [if_true]
        omega
      | false =>
        rw [if_pos rfl, diffRow_snoc, hB, if_neg (by decide), List.length_append]
        simp only [if_true, List.length_singleton]
        simp
        omega
    | false =>
      cases hB : B i P with
      | true => rw [h P hB] at hA; cases hA
      | false =>
        rw [if_neg (by decide), List.append_nil]
        simp
        omega
theorem diffTo_tot (A B : Nat → Nat → Bool) (P : Nat) (h : ∀ i c, B i c = true → A i c = true) : ∀ N, (diffTo A B P N).length + totIn P N B = totIn P N A
  | 0 => rfl
  | N + 1 => by
    have ih := diffTo_tot A B P h N
    have e := diffRow_cnt A B N (h N) P
    have e1 : totIn P (N + 1) A = totIn P N A + cnt (A N) P := rfl
    have e2 : totIn P (N + 1) B = totIn P N B + cnt (B N) P := rfl
    rw [e1, e2]
    unfold diffTo
    rw [List.length_append]
    omega
theorem diff_tot {P K : Nat} {rs rs' : List Rl} {ans : List (Nat × Nat)} (h : Diff P K rs rs' ans) (hs : ∀ r, r ∈ rs → r ∈ rs') {A B : Nat → Nat → Bool} (ha : ∀ i c, A i c = true ↔ i < P * K ∧ c < P ∧ Der K rs' i c) (hb : ∀ i c, B i c = true ↔ i < P * K ∧ c < P ∧ Der K rs i c) : totIn P (P * K) A = totIn P (P * K) B + ans.length := by
  have e : ans = diffTo A B P (P * K) := h.eq (diff_drop ha hb)
  rw [e, ← diffTo_tot A B P (fun i c hc => (ha i c).2 ⟨((hb i c).1 hc).1, ((hb i c).1 hc).2.1, ((hb i c).1 hc).2.2.mono hs⟩)]
  omega
/-- The last one that came goes: all else is as it was. -/
theorem DropR.last {P K : Nat} {rs rs' : List Rl} {r : Rl} {ans : List (Nat × Nat)} {code : Int} (hn : (rs ++ [r]).Nodup) (h : DropR P K (rs ++ [r]) r rs' ans code) : Diff P K rs (rs ++ [r]) ans ∧ code = 0 := by
  obtain ⟨e, hd, hc⟩ := h.at (a := rs.length) hn (by simp)
  have e2 : rs' = rs := by rw [e]; simp
  rw [e2] at hd
  exact ⟨hd, hc⟩
set_option maxRecDepth 100000
set_option maxHeartbeats 3200000
theorem add_nil (r : Rl) (W : World) : Calls Tryd.prog 8 #[.pointer none, .agg #[.int .i64 r.kind, .int .i64 r.head, .int .i64 r.who, .int .i64 r.a, .int .i64 r.b, .int .i64 r.via]] W fun e W' => e = .returned (.tuple #[.slice none 0 0, .int .i64 6]) ∧ Hid (Keeps (fun _ => False) W W') := by
  obtain ⟨kind, head, who, a, b, via⟩ := r
  dsimp only
  go_enter Tryd.func8, Tryd.ntmps8
  go_upto_region 1 with fail
  go_quiet (fail)
  have HP : Hid (Keeps (fun _ => False) W ((W.alloc (.cells #[.int .i64 kind, .int .i64 head, .int .i64 who, .int .i64 a, .int .i64 b, .int .i64 via] 29)).drewN nq)) := ((Keeps.refl _ _).alloc _).drewN nq
  go_wp2
  go_ret2
  exact ⟨rfl, HP⟩
theorem drop_nil (r : Rl) (W : World) : Calls Tryd.prog 9 #[.pointer none, .agg #[.int .i64 r.kind, .int .i64 r.head, .int .i64 r.who, .int .i64 r.a, .int .i64 r.b, .int .i64 r.via]] W fun e W' => e = .returned (.tuple #[.slice none 0 0, .int .i64 7]) ∧ Hid (Keeps (fun _ => False) W W') := by
  obtain ⟨kind, head, who, a, b, via⟩ := r
  dsimp only
  go_enter Tryd.func9, Tryd.ntmps9
  go_upto_region 1 with fail
  go_quiet (fail)
  have HP : Hid (Keeps (fun _ => False) W ((W.alloc (.cells #[.int .i64 kind, .int .i64 head, .int .i64 who, .int .i64 a, .int .i64 b, .int .i64 via] 29)).drewN nq)) := ((Keeps.refl _ _).alloc _).drewN nq
  go_wp2
  go_ret2
  exact ⟨rfl, HP⟩
theorem len_nil (W : World) : Calls Tryd.prog 14 #[.pointer none] W fun e W' => e = .returned (.int .i64 0) ∧ W = W' := by
  go_enter Tryd.func14, Tryd.ntmps14
  go_wp2
  go_ret
  exact ⟨rfl, rfl⟩
theorem rules_nil (W : World) : Calls Tryd.prog 11 #[.pointer none] W fun e W' => e = .returned (.slice none 0 0) ∧ W = W' := by
  go_enter Tryd.func11, Tryd.ntmps11
  go_wp2
  go_ret
  exact ⟨rfl, rfl⟩
theorem members_nil (i : Int) (W : World) : Calls Tryd.prog 12 #[.pointer none, .int .i64 i] W fun e W' => e = .returned (.slice none 0 0) ∧ W = W' := by
  go_enter Tryd.func12, Tryd.ntmps12
  go_wp2
  go_ret
  exact ⟨rfl, rfl⟩
theorem in_nil (i c : Int) (W : World) : Calls Tryd.prog 21 #[.pointer none, .int .i64 i, .int .i64 c] W fun e W' => e = .returned (.bool false) ∧ W = W' := by
  go_enter Tryd.func21, Tryd.ntmps21
  go_wp2
  go_ret
  exact ⟨rfl, rfl⟩
theorem copy_nil (W : World) : Calls Tryd.prog 22 #[.pointer none] W fun e W' => e = .returned (.pointer none) ∧ W = W' := by
  go_enter Tryd.func22, Tryd.ntmps22
  go_wp2
  go_ret
  exact ⟨rfl, rfl⟩
end Go.Proofs.YtaabmkebbnkonaaDoor
