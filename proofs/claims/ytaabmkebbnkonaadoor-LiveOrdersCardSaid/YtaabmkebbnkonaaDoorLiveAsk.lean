/-
  What there is: rules, members, how many; a copy of rules.
-/
import Derived.Test.YtaabmkebbnkonaaDoorLiveAdd
import Derived.Test.YtaabmkebbnkonaaDoorMA
set_option linter.unusedVariables false
set_option linter.unusedSimpArgs false
set_option linter.unnecessarySimpa false
namespace Go.Proofs.YtaabmkebbnkonaaDoor
open Go.ChangeShapes Go.WideShapes Go.ChangeAt Go.RowKit Go.Deep SetPlain
theorem rules_eql (W : World) (a : Option Addr) (n c : Nat) : (binOp .eql 38 (.slice a n c) (.slice none 0 0)).run Tryd.prog W = .ok (.bool a.isNone) W := Lib.run_eql_slice_nil W _ 29 a n c 0 0 Tryd.underlying38
/-- Rules in memory of the call's own. -/
def RowNew (W W' : World) (u : Value) (rs : List Rl) : Prop := ∃ ao cap, u = .slice ao rs.length cap ∧ rs.length ≤ cap ∧ RuleRow W' ao rs ∧ (∀ k, u.ownBlock = some k → W.heap.size ≤ k) ∧ TailRow W' 29 6 u rs.length (rlCells rs)
theorem empty_own (W : World) : (W.alloc (.cells #[] 29)).ownsRow W.heap.size 29 6 (.slice (some ⟨W.heap.size, 0, none⟩) 0 0) 0 [] :=
  ⟨rfl, .inr ⟨W.heap.size, 0, #[], rfl, Nat.le_refl _, (MapKept.heap_alloc W _).1, Nat.le_refl _, Nat.zero_le _, rfl, rfl⟩⟩
set_option maxRecDepth 100000
set_option maxHeartbeats 3200000
theorem rclone_spec {W : World} {v : Value} {rs : List Rl} (h : TailRow W 29 6 v rs.length (rlCells rs)) (hl : rs.length ≤ 100000) :
    Calls Tryd.prog 34 #[v] W fun e W' => ∃ u, e = .returned u ∧ Hid (RowNew W W' u rs ∧ Keeps (fun _ => False) W W') := by
  obtain ⟨i1, hi1, hy0, hy1, hy2⟩ := info_parts rlInfo
  have he := rules_eql
  obtain ⟨hlx, ⟨rfl, hn0⟩ | ⟨g, o, cap, cur, rfl, hh, hle, hmx, hsz0, ht⟩⟩ := h
  · obtain rfl : rs = [] := List.eq_nil_of_length_eq_zero hn0
    have HP : Hid (RowNew W W (.slice none 0 0) [] ∧ Keeps (fun _ => False) W W) := ⟨⟨none, 0, rfl, Nat.le_refl _, fun h => absurd h (Nat.lt_irrefl _), fun k e => (by cases e), TailRow.nil _ _ _⟩, Keeps.refl _ _⟩
    clear hlx hn0
    go_enter Tryd.func34, Tryd.ntmps34
    go_wp2_with fail
    go_ret
    exact ⟨_, rfl, HP⟩
  · have hc : ∀ j u, (rlCells rs)[j]? = some u → (W.alloc (.cells #[] 29)).cell? ((⟨g, o, none⟩ : Addr).add j) = some u := fun j u hu => by
      rw [add_plain, World.cell?_alloc_past _ _ _ (lt_of_heap hh), cell_of_heap hh]
      exact ht j u hu
    have HC := Lib.hid hc
    obtain ⟨n, hn⟩ : ∃ n, rs.length = n := ⟨_, rfl⟩
    have HN := Lib.hid hn
    rw [hn] at hlx hle hl ⊢
    clear hh ht hsz0 hc hn
    go_enter Tryd.func34, Tryd.ntmps34
    go_wp2_with (at_builtin; refine wpList_append_own _ rfl _ _ 38 rfl W.heap.size 29 i1 _ 6 48 Tryd.underlying38 hi1 hy0 hy1 hy2 rfl (by decide) _ 0 [] rfl (empty_own W) ⟨g, o, none⟩ n cap (rlCells rs) rfl hlx HC.out (rl_one rs) (by unfold maxLen; omega) (by omega) (by simp) ?_)
    intro v2 w6 hown2 hgrow _
    have HP : Hid (RowNew W w6 v2 rs ∧ Keeps (fun _ => False) W w6) := by
      have k1 : Keeps (fun _ => False) W (W.alloc (.cells #[] 29)) := (Keeps.refl _ _).alloc _
      have htl := TailRow.of_own hown2
      rw [← HN.out] at htl
      obtain ⟨ao, cp, hv, hle2, _, hrow⟩ := TailRow.rules htl
      exact ⟨⟨ao, cp, hv, hle2, hrow, own_block hown2, htl⟩, k1.trans_new (keeps_grown hgrow) (fun q hq e => by simp [Value.ownBlock] at e; omega)⟩
    clear HC HN hown2 hgrow
    go_wp2_with fail
    go_ret
    exact ⟨_, rfl, HP⟩
theorem lrules_spec {z : Nat} {W : World} {lb P K : Nat} {rs : List Rl} {Fp : Nat → Prop} (h : LvIs z W lb P K rs Fp) :
    Calls Tryd.prog 11 #[.pointer (some ⟨lb, 0, none⟩)] W fun e W' => ∃ u, e = .returned u ∧ Hid (RowNew W W' u rs ∧ Keeps (fun _ => False) W W') := by
  obtain ⟨fb, bw, rb, v, In, tot, hL, _⟩ := h
  have HC := Lib.hid (rclone_spec hL.row (Nat.le_trans hL.len (by decide)))
  have c1 := hL.cells.2.1
  clear hL
  go_enter Tryd.func11, Tryd.ntmps11
  go_wp2_with (go_at_call 34; refine HC.out.mono ?_; rintro e w' ⟨u, rfl, hu⟩)
  clear HC
  go_ret
  exact ⟨_, rfl, hu⟩
theorem members_spec {z : Nat} {W : World} {lb P K : Nat} {rs : List Rl} {Fp : Nat → Prop} (h : LvIs z W lb P K rs Fp) (hT : TabIn W) (i : Int) :
    Calls Tryd.prog 12 #[.pointer (some ⟨lb, 0, none⟩), .int .i64 i] W fun e W' => ∃ u l, e = .returned u ∧ Hid (LsR W' u l ∧ Keeps (fun _ => False) W W' ∧ l.Pairwise (· < ·) ∧ ∀ c, c ∈ l ↔ 0 ≤ i ∧ i.toNat < P * K ∧ c < P ∧ Der K rs i.toNat c) := by
  obtain ⟨fb, bw, rb, v, In, tot, hL, _, hIn, _⟩ := h
  have HC := Lib.hid (flist_spec hL.fam hT i)
  have c0 := hL.cells.1
  have HM : Hid (∀ c, c ∈ listTo (rowP (P * K) In i) P ↔ 0 ≤ i ∧ i.toNat < P * K ∧ c < P ∧ Der K rs i.toNat c) := fun c => by
    rw [listTo_iff]
    unfold rowP
    by_cases hi : 0 ≤ i ∧ i < ((P * K : Nat) : Int)
    · rw [if_pos hi, hIn]
      constructor
      · rintro ⟨h1, h2, h3, h4⟩; exact ⟨hi.1, h2, h3, h4⟩
      · rintro ⟨h1, h2, h3, h4⟩; exact ⟨h3, h2, h3, h4⟩
    · rw [if_neg hi]
      constructor
      · rintro ⟨_, h⟩; cases h
      · rintro ⟨h1, h2, _⟩; exact absurd ⟨h1, by omega⟩ hi
  clear hL hIn
  go_enter Tryd.func12, Tryd.ntmps12
  go_wp2_with (go_at_call 31; refine HC.out.mono ?_; rintro e w' ⟨u, rfl, hown, hb⟩)
  have HP : Hid (LsR w' u (listTo (rowP (P * K) In i) P) ∧ Keeps (fun _ => False) W w' ∧ (listTo (rowP (P * K) In i) P).Pairwise (· < ·) ∧ ∀ c, c ∈ listTo (rowP (P * K) In i) P ↔ 0 ≤ i ∧ i.toNat < P * K ∧ c < P ∧ Der K rs i.toNat c) := ⟨⟨_, hown⟩, Keeps.of_below hb (Nat.le_refl _), listTo_rises _ _, HM.out⟩
  clear HC HM hown hb
  go_ret
  exact ⟨_, _, rfl, HP⟩
theorem llen_spec {z : Nat} {W : World} {lb P K : Nat} {rs : List Rl} {Fp : Nat → Prop} (h : LvIs z W lb P K rs Fp) :
    Calls Tryd.prog 14 #[.pointer (some ⟨lb, 0, none⟩)] W fun e W' => ∃ n : Nat, e = .returned (.int .i64 n) ∧ W = W' ∧ Hid (∃ In : Nat → Nat → Bool, n = totIn P (P * K) In ∧ ∀ i c, In i c = true ↔ i < P * K ∧ c < P ∧ Der K rs i c) := by
  obtain ⟨fb, bw, rb, v, In, tot, hL, _, hIn, _⟩ := h
  have HC := Lib.hid (ftotal_spec hL.fam)
  have c0 := hL.cells.1
  have HP : Hid (∃ In : Nat → Nat → Bool, tot = totIn P (P * K) In ∧ ∀ i c, In i c = true ↔ i < P * K ∧ c < P ∧ Der K rs i c) := ⟨In, hL.tot_, hIn⟩
  clear hL hIn
  go_enter Tryd.func14, Tryd.ntmps14
  go_wp2_with (go_at_call 35; refine HC.out.mono ?_; rintro e w' ⟨rfl, rfl⟩)
  clear HC
  go_ret
  exact ⟨_, rfl, rfl, HP⟩
end Go.Proofs.YtaabmkebbnkonaaDoor
