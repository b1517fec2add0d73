/-
  The document's table: each text put where it belongs. No program in sight.
-/
import Derived.Test.YtcdfpnlaklaafaaGreatNamePlain
set_option linter.unusedVariables false
set_option linter.unusedSimpArgs false
namespace Go.Proofs.YtcdfpnlaklaafaaGreat
def insS (s : Str) : List Str → List Str
  | [] => [s]
  | x :: l => if s < x then s :: x :: l else x :: insS s l
theorem ins_cons (s x : Str) (l : List Str) : insS s (x :: l) = if s < x then s :: x :: l else x :: insS s l := rfl
theorem ins_mem (s : Str) : ∀ (l : List Str) (z : Str), z ∈ insS s l ↔ z = s ∨ z ∈ l
  | [], z => by simp [insS]
  | x :: l, z => by
    unfold insS
    split
    · simp
    · rw [List.mem_cons, ins_mem s l z, List.mem_cons]
      constructor
      · rintro (h | h | h)
        · exact .inr (.inl h)
        · exact .inl h
        · exact .inr (.inr h)
      · rintro (h | h | h)
        · exact .inr (.inl h)
        · exact .inl h
        · exact .inr (.inr h)
theorem ins_rises (s : Str) : ∀ {l : List Str}, l.Pairwise (· < ·) → s ∉ l → (insS s l).Pairwise (· < ·)
  | [], _, _ => by simp [insS]
  | x :: l, h, hs => by
    have h' := List.pairwise_cons.1 h
    unfold insS
    split
    · rename_i hlt
      refine List.pairwise_cons.2 ⟨fun y hy => ?_, h⟩
      rcases List.mem_cons.1 hy with rfl | hy
      · exact hlt
      · exact str_trans hlt (h'.1 y hy)
    · rename_i hlt
      have hx : x < s := by
        rcases str_total x s with q | q | q
        · exact q
        · exact absurd (by rw [q]; simp) hs
        · exact absurd q hlt
      refine List.pairwise_cons.2 ⟨fun y hy => ?_, ins_rises s h'.2 (fun q => hs (List.mem_cons_of_mem _ q))⟩
      rcases (ins_mem s l y).1 hy with rfl | hy
      · exact hx
      · exact h'.1 y hy
theorem ins_len (s : Str) : ∀ l : List Str, (insS s l).length = l.length + 1
  | [] => rfl
  | x :: l => by
    unfold insS
    split
    · simp
    · simp [ins_len s l]
def putS (l : List Str) (s : Str) : List Str := if s ∈ l then l else insS s l
theorem put_rises {l : List Str} (h : l.Pairwise (· < ·)) (s : Str) : (putS l s).Pairwise (· < ·) := by
  unfold putS
  split
  · exact h
  · rename_i hs; exact ins_rises s h hs
theorem put_mem (l : List Str) (s z : Str) : z ∈ putS l s ↔ z ∈ l ∨ z = s := by
  unfold putS
  split
  · rename_i h
    exact ⟨.inl, fun q => q.elim id (fun e => e ▸ h)⟩
  · rw [ins_mem]; exact or_comm
theorem put_len (l : List Str) (s : Str) : (putS l s).length ≤ l.length + 1 := by
  unfold putS
  split
  · omega
  · rw [ins_len]; exact Nat.le_refl _
theorem puts_rises : ∀ (l a : List Str), a.Pairwise (· < ·) → (l.foldl putS a).Pairwise (· < ·)
  | [], a, h => h
  | s :: l, a, h => puts_rises l _ (put_rises h s)
theorem puts_mem : ∀ (l a : List Str) (z : Str), z ∈ l.foldl putS a ↔ z ∈ a ∨ z ∈ l
  | [], a, z => by simp
  | s :: l, a, z => by
    rw [List.foldl_cons, puts_mem l _ z, put_mem, List.mem_cons]
    constructor
    · rintro ((h | h) | h)
      · exact .inl h
      · exact .inr (.inl h)
      · exact .inr (.inr h)
    · rintro (h | h | h)
      · exact .inl (.inl h)
      · exact .inl (.inr h)
      · exact .inr h
theorem puts_len : ∀ (l a : List Str), (l.foldl putS a).length ≤ a.length + l.length
  | [], a => by simp
  | s :: l, a => by
    have h1 := puts_len l (putS a s)
    have h2 := put_len a s
    rw [List.foldl_cons, List.length_cons]
    omega
theorem puts_tab (l : List Str) : l.foldl putS [] = tabL l := (tab_eq (puts_rises l [] List.Pairwise.nil) (fun x => by rw [puts_mem]; simp)).symm
/-- Where the document's loop stands. -/
structure InsI (s : Str) (l : List Str) (i : Nat) (done : Bool) (out : List Str) : Prop where
  no : done = false → out = l.take i ∧ insS s l = l.take i ++ insS s (l.drop i)
  yes : done = true → out = (insS s l).take (i + 1) ∧ ∀ k, i ≤ k → (insS s l)[k + 1]? = l[k]?
theorem insI_start (s : Str) (l : List Str) : InsI s l 0 false [] := ⟨fun _ => ⟨by simp, by simp⟩, fun h => by cases h⟩
theorem InsI.before {s : Str} {l : List Str} {i : Nat} {out : List Str} {x : Str} (h : InsI s l i false out) (hx : l[i]? = some x) (hlt : s < x) : InsI s l (i + 1) true (out ++ [s] ++ [x]) := by
  obtain ⟨rfl, h2⟩ := h.no rfl
  obtain ⟨hi, e⟩ := List.getElem?_eq_some_iff.1 hx
  have hd : l.drop i = x :: l.drop (i + 1) := by rw [← e]; exact List.drop_eq_getElem_cons hi
  rw [hd, ins_cons, if_pos hlt] at h2
  have hlen : (l.take i).length = i := by rw [List.length_take]; omega
  refine ⟨(by intro h; cases h), fun _ => ⟨?_, fun k hk => ?_⟩⟩
  · have e2 : l.take i ++ s :: x :: l.drop (i + 1) = (l.take i ++ [s] ++ [x]) ++ l.drop (i + 1) := by simp
    rw [h2, e2, List.take_left']
    rw [List.length_append, List.length_append, hlen]; rfl
  · rw [h2]
    have e2 : l.take i ++ s :: x :: l.drop (i + 1) = (l.take i ++ [s]) ++ (x :: l.drop (i + 1)) := by simp
    have hl2 : (l.take i ++ [s]).length = i + 1 := by rw [List.length_append, hlen]; rfl
    rw [e2, List.getElem?_append_right (by omega), hl2, ← hd, List.getElem?_drop]
    congr 1; omega
theorem InsI.pass {s : Str} {l : List Str} {i : Nat} {out : List Str} {x : Str} (h : InsI s l i false out) (hx : l[i]? = some x) (hlt : ¬ s < x) : InsI s l (i + 1) false (out ++ [x]) := by
  obtain ⟨rfl, h2⟩ := h.no rfl
  obtain ⟨hi, e⟩ := List.getElem?_eq_some_iff.1 hx
  have hd : l.drop i = x :: l.drop (i + 1) := by rw [← e]; exact List.drop_eq_getElem_cons hi
  have ht : l.take (i + 1) = l.take i ++ [x] := by rw [List.take_add_one, hx]; rfl
  rw [hd, ins_cons, if_neg hlt] at h2
  exact ⟨fun _ => ⟨ht.symm, by rw [ht, h2]; simp⟩, fun h => by cases h⟩
theorem InsI.on {s : Str} {l : List Str} {i : Nat} {out : List Str} {x : Str} (h : InsI s l i true out) (hx : l[i]? = some x) : InsI s l (i + 1) true (out ++ [x]) := by
  obtain ⟨rfl, h2⟩ := h.yes rfl
  refine ⟨(by intro h; cases h), fun _ => ⟨?_, fun k hk => h2 k (by omega)⟩⟩
  have := h2 i (Nat.le_refl _)
  rw [hx] at this
  rw [List.take_add_one (l := insS s l) (i := i + 1), this]
  rfl
theorem InsI.done {s : Str} {l : List Str} {out : List Str} (h : InsI s l l.length true out) : out = insS s l := by
  obtain ⟨rfl, _⟩ := h.yes rfl
  rw [List.take_of_length_le (by rw [ins_len]; exact Nat.le_refl _)]
theorem InsI.last {s : Str} {l : List Str} {out : List Str} (h : InsI s l l.length false out) : out ++ [s] = insS s l := by
  obtain ⟨rfl, h2⟩ := h.no rfl
  rw [h2, List.drop_length]
  rfl
end Go.Proofs.YtcdfpnlaklaafaaGreat
