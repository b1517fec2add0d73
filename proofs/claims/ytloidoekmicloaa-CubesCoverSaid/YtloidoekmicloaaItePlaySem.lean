/-
  Diagrams made of one another in any way: where each is true. No program in sight.
-/
import Derived.Test.YtloidoekmicloaaItePlayLaws
set_option linter.unusedVariables false
set_option linter.unusedSimpArgs false
set_option linter.unnecessarySimpa false
namespace Go.Proofs.Ytloidoekmicloaa
open Go.ChangeShapes Go.WideShapes Go.ChangeAt Go.RowKit Go.Deep NodePlain
section
variable {V B : Int} {st : St} {K : Nat}
theorem stepK_ev (hV0 : 0 ≤ V) (ok : Ok V st) {k : Nat} (hk : V = (k : Int)) (hs0 : st.s = false) (oa : Nat) {x y t : Int} (hx : isN st.n x = true) (hy : isN st.n y = true) (ht : isN st.n t = true) (c : Nat) (hs : (stepK V B oa x y t st c).2.s = false)
    {no yes X Y T : Nat → Bool} (b : Nat) (e0 : no b = false) (e1 : yes b = true) (eX : ev st.L b.testBit x = X b) (eY : ev st.L b.testBit y = Y b) (eT : ev st.L b.testBit t = T b) :
    ev (stepK V B oa x y t st c).2.L b.testBit (stepK V B oa x y t st c).1 = rowK k oa no yes X Y T c b := by
  have up : ∀ (st : St) f g h, Up st (iteT V B st f g h).2 := fun st f g h => iteM_up V B _ st f g h
  unfold stepK at hs ⊢
  unfold rowK
  split at hs <;> rw [opG_no hs0] at hs <;> rw [opG_no hs0]
  · exact lit_ev ok hk hs _
  · rw [iteT_ev hV0 ok hx hy ht hs, eX, eY, eT]; rfl
  · rw [iteT_ev hV0 ok hx (is0 _) (is1 _) hs, eX, ev0, ev1]
    show _ = if X b then no b else yes b
    rw [e0, e1]
  · have hs : (iteT V B (iteT V B (iteT V B st x 1 0).2 y (iteT V B st x 1 0).1 0).2 t (iteT V B (iteT V B st x 1 0).2 y (iteT V B st x 1 0).1 0).1 0).2.s = false := hs
    have s2 := not_spent (up _ _ _ _) hs
    have s1 := not_spent (up _ _ _ _) s2
    have p1 := iteT_ok (B := B) hV0 ok hx (is1 _) (is0 _)
    have p2 := iteT_ok (B := B) hV0 p1.ok (p1.ext.is hy) p1.isr (is0 _)
    show ev (iteT V B (iteT V B (iteT V B st x 1 0).2 y (iteT V B st x 1 0).1 0).2 t (iteT V B (iteT V B st x 1 0).2 y (iteT V B st x 1 0).1 0).1 0).2.L _ (iteT V B (iteT V B (iteT V B st x 1 0).2 y (iteT V B st x 1 0).1 0).2 t (iteT V B (iteT V B st x 1 0).2 y (iteT V B st x 1 0).1 0).1 0).1 = if X b then (if Y b then T b else no b) else no b
    rw [iteT_ev hV0 p2.ok (p2.ext.is (p1.ext.is ht)) p2.isr (is0 _) hs, iteT_ev hV0 p1.ok (p1.ext.is hy) p1.isr (is0 _) s2, iteT_ev hV0 ok hx (is1 _) (is0 _) s1,
      p2.ext.ev p1.ok.good _ (isN_iff.1 (p1.ext.is ht)).2, p1.ext.ev ok.good _ (isN_iff.1 ht).2, p1.ext.ev ok.good _ (isN_iff.1 hy).2, eX, eY, eT, ev0, ev1, ev0, ev0, e0]
    cases X b <;> cases Y b <;> cases T b <;> rfl
  · have hs : (iteT V B (iteT V B (iteT V B st x 1 0).2 y 1 (iteT V B st x 1 0).1).2 t 1 (iteT V B (iteT V B st x 1 0).2 y 1 (iteT V B st x 1 0).1).1).2.s = false := hs
    have s2 := not_spent (up _ _ _ _) hs
    have s1 := not_spent (up _ _ _ _) s2
    have p1 := iteT_ok (B := B) hV0 ok hx (is1 _) (is0 _)
    have p2 := iteT_ok (B := B) hV0 p1.ok (p1.ext.is hy) (is1 _) p1.isr
    show ev (iteT V B (iteT V B (iteT V B st x 1 0).2 y 1 (iteT V B st x 1 0).1).2 t 1 (iteT V B (iteT V B st x 1 0).2 y 1 (iteT V B st x 1 0).1).1).2.L _ (iteT V B (iteT V B (iteT V B st x 1 0).2 y 1 (iteT V B st x 1 0).1).2 t 1 (iteT V B (iteT V B st x 1 0).2 y 1 (iteT V B st x 1 0).1).1).1 = if X b then yes b else (if Y b then yes b else T b)
    rw [iteT_ev hV0 p2.ok (p2.ext.is (p1.ext.is ht)) (is1 _) p2.isr hs, iteT_ev hV0 p1.ok (p1.ext.is hy) (is1 _) p1.isr s2, iteT_ev hV0 ok hx (is1 _) (is0 _) s1,
      p2.ext.ev p1.ok.good _ (isN_iff.1 (p1.ext.is ht)).2, p1.ext.ev ok.good _ (isN_iff.1 ht).2, p1.ext.ev ok.good _ (isN_iff.1 hy).2, eX, eY, eT, ev0, ev1, ev1, ev1, e1]
    cases X b <;> cases Y b <;> cases T b <;> rfl
  · have hs : (iteT V B (iteT V B st y 0 1).2 x (iteT V B st y 0 1).1 y).2.s = false := hs
    have s1 := not_spent (up _ _ _ _) hs
    have p1 := iteT_ok (B := B) hV0 ok hy (is0 _) (is1 _)
    show ev (iteT V B (iteT V B st y 0 1).2 x (iteT V B st y 0 1).1 y).2.L _ (iteT V B (iteT V B st y 0 1).2 x (iteT V B st y 0 1).1 y).1 = if X b then (if Y b then no b else yes b) else Y b
    rw [iteT_ev hV0 p1.ok (p1.ext.is hx) p1.isr (p1.ext.is hy) hs, iteT_ev hV0 ok hy (is0 _) (is1 _) s1, p1.ext.ev ok.good _ (isN_iff.1 hx).2, p1.ext.ev ok.good _ (isN_iff.1 hy).2, eX, eY, ev0, ev1, e0, e1]
  · rw [iteT_ev hV0 ok hx (is0 _) hy hs, eX, ev0, eY]
    show _ = if X b then no b else Y b
    rw [e0]
  · show ev st.L _ 1 = yes b
    rw [ev1, e1]
/-- Behind so many: where each is true. -/
structure PSem (V B : Int) (j : Nat) (s : PlS) : Prop where
  inv : PInv V j s
  bnd : s.st.n ≤ B ∧ (s.st.s = true → B ≤ s.st.n)
  sem : ∀ (i : Nat) (x : Int) (R : Nat → Bool), s.l[i]? = some x → s.Rs[i]? = some R → ∀ b, ev s.st.L (Nat.testBit b) x = R b
  no : s.Rs[0]? = some (fun _ => false)
  yes : s.Rs[1]? = some (fun _ => true)
theorem PSem.ns {j : Nat} {s : PlS} (h : PSem V B j s) (hj : j ≤ 30) (hB : 23040 < B) : s.st.s = false := by
  cases e : s.st.s with
  | false => rfl
  | true =>
    have := h.bnd.2 e
    have := h.inv.wf.n
    omega
theorem psem0 (hB : 0 ≤ B) : PSem V B 0 play0 := by
  refine ⟨pinv0 V, ⟨hB, fun e => by cases e⟩, fun i x R h1 h2 b => ?_, rfl, rfl⟩
  match i, h1, h2 with
  | 0, h1, h2 =>
    simp only [play0, List.getElem?_cons_zero, Option.some.injEq] at h1 h2
    subst h1 h2
    exact ev0 _ _
  | 1, h1, h2 =>
    simp only [play0, List.getElem?_cons_succ, List.getElem?_cons_zero, Option.some.injEq] at h1 h2
    subst h1 h2
    exact ev1 _ _
  | i + 2, h1, h2 => simp [play0] at h1
theorem psem_step (hV0 : 0 ≤ V) (hV : V ≤ 8) (hB : 23040 < B) {k j : Nat} (hk : V = (k : Int)) (hj : j + 1 ≤ 30) {s : PlS} (h : PSem V B j s) (o : OpR) : PSem V B (j + 1) (playStep V B k s o) := by
  have inv := pinv_step (B := B) (k := k) hV0 hV h.inv o
  have bnd : (playStep V B k s o).st.n ≤ B ∧ ((playStep V B k s o).st.s = true → B ≤ (playStep V B k s o).st.n) := stepK_bnd (V := V) o.a _ _ _ s.st (o.kind % 8) h.bnd
  have hq : 0 < s.l.length := by rw [h.inv.len]; omega
  have hlen : s.Rs.length = s.l.length := by rw [h.inv.len, h.inv.lenR]
  have hget : ∀ i, i < s.l.length → isN s.st.n (s.l.getD i 0) = true ∧ ∀ b, ev s.st.L (Nat.testBit b) (s.l.getD i 0) = s.Rs.getD i (fun _ => false) b := fun i hi => by
    rw [List.getD_eq_getElem?_getD, List.getElem?_eq_getElem hi, List.getD_eq_getElem?_getD, List.getElem?_eq_getElem (by omega)]
    exact ⟨h.inv.is _ (List.getElem_mem hi), fun b => h.sem i _ _ (List.getElem?_eq_getElem hi) (List.getElem?_eq_getElem (by omega)) b⟩
  obtain ⟨ax, bx⟩ := hget (o.a % s.l.length) (Nat.mod_lt _ hq)
  obtain ⟨ay, b_y⟩ := hget (o.b % s.l.length) (Nat.mod_lt _ hq)
  obtain ⟨at_, bt⟩ := hget (o.c % s.l.length) (Nat.mod_lt _ hq)
  have g := step_good (B := B) hV0 hV h.inv.wf o.a ax ay at_ (o.kind % 8)
  have ns : (playStep V B k s o).st.s = false := by
    cases e : (playStep V B k s o).st.s with
    | false => rfl
    | true =>
      have := bnd.2 e
      have := inv.wf.n
      omega
  have hno : s.Rs.getD 0 (fun _ => false) = fun _ => false := by rw [List.getD_eq_getElem?_getD, h.no]; rfl
  have hyes : s.Rs.getD 1 (fun _ => false) = fun _ => true := by rw [List.getD_eq_getElem?_getD, h.yes]; rfl
  have l2 : 2 ≤ s.Rs.length := by rw [h.inv.lenR]; omega
  refine ⟨inv, bnd, fun i x R h1 h2 b => ?_, ?_, ?_⟩
  · rcases Nat.lt_or_ge i s.l.length with hi | hi
    · have h1' : (s.l ++ [_])[i]? = some x := h1
      have h2' : (s.Rs ++ [_])[i]? = some R := h2
      rw [List.getElem?_append_left hi] at h1'
      rw [List.getElem?_append_left (by omega)] at h2'
      show ev (stepK V B o.a _ _ _ s.st (o.kind % 8)).2.L _ x = _
      rw [g.ext.ev h.inv.wf.ok.good _ (isN_iff.1 (h.inv.is x (List.mem_of_getElem? h1'))).2]
      exact h.sem i x R h1' h2' b
    · have h1' : (s.l ++ [_])[i]? = some x := h1
      have h2' : (s.Rs ++ [_])[i]? = some R := h2
      rw [List.getElem?_append_right hi] at h1'
      rw [List.getElem?_append_right (by omega), hlen] at h2'
      match hi0 : i - s.l.length, h1', h2' with
      | 0, h1', h2' =>
        simp only [List.getElem?_cons_zero, Option.some.injEq] at h1' h2'
        subst h1' h2'
        exact stepK_ev hV0 h.inv.wf.ok hk (h.ns (by omega) hB) o.a ax ay at_ (o.kind % 8) ns b (by rw [hno]) (by rw [hyes]) (bx b) (b_y b) (bt b)
      | i + 1, h1', h2' => simp at h1'
  · show (s.Rs ++ [_])[0]? = _
    rw [List.getElem?_append_left (by omega)]
    exact h.no
  · show (s.Rs ++ [_])[1]? = _
    rw [List.getElem?_append_left (by omega)]
    exact h.yes
theorem playM_sem (hV0 : 0 ≤ V) (hV : V ≤ 8) (hB : 23040 < B) {k : Nat} (hk : V = (k : Int)) (os : List OpR) : PSem V B (os.take 30).length (playM V B k os) := by
  have go : ∀ (l : List OpR) (j : Nat) (s : PlS), PSem V B j s → j + l.length ≤ 30 → PSem V B (j + l.length) (l.foldl (playStep V B k) s) := fun l => by
    induction l with
    | nil => exact fun j s h _ => h
    | cons o l ih =>
      intro j s h hj
      rw [List.length_cons] at hj ⊢
      have := ih (j + 1) _ (psem_step hV0 hV hB hk (by omega) h o) (by omega)
      rw [show j + (l.length + 1) = j + 1 + l.length by omega]
      exact this
  have := go (os.take 30) 0 play0 (psem0 (by omega)) (by rw [List.length_take]; omega)
  rw [Nat.zero_add] at this
  exact this
end
/-- Are two rows the same at the first so many bits? -/
def sameN (R Q : Nat → Bool) : Nat → Bool
  | 0 => true
  | b + 1 => sameN R Q b && (R b == Q b)
theorem sameN_iff (R Q : Nat → Bool) : ∀ m, sameN R Q m = true ↔ ∀ b, b < m → R b = Q b
  | 0 => ⟨fun _ b h => absurd h (Nat.not_lt_zero _), fun _ => rfl⟩
  | m + 1 => by
    unfold sameN
    rw [Bool.and_eq_true, sameN_iff R Q m, beq_iff_eq]
    refine ⟨fun h b hb => ?_, fun h => ⟨fun b hb => h b (by omega), h m (Nat.lt_succ_self m)⟩⟩
    rcases Nat.lt_or_ge b m with h1 | h1
    · exact h.1 b h1
    · obtain rfl : b = m := by omega
      exact h.2
/-- What the law asks of the play. -/
structure Tells (k m j : Nat) (s : PlS) : Prop where
  le : j ≤ 30
  len : s.l.length = j + 2
  lenR : s.Rs.length = j + 2
  ns : s.st.s = false
  n : s.st.n ≤ 23040
  calls : s.calls ≤ 90
  is : ∀ (i : Nat) (x : Int), s.l[i]? = some x → isN s.st.n x = true
  sem : ∀ (i : Nat) (x : Int) (R : Nat → Bool), s.l[i]? = some x → s.Rs[i]? = some R → ∀ b, ev s.st.L (Nat.testBit b) x = R b
  same : ∀ (i h : Nat) (x y : Int) (R Q : Nat → Bool), s.l[i]? = some x → s.Rs[i]? = some R → s.l[h]? = some y → s.Rs[h]? = some Q → decide (y = x) = sameN Q R m
theorem tells_facts (k : Nat) (hk : k ≤ 6) (m : Nat) (hm : 2 ^ k = m) (os : List OpR) : Tells k m (os.take 30).length (playM k 1048576 k os) := by
  have h := playM_sem (V := (k : Int)) (B := 1048576) (by omega) (by omega) (by omega) (k := k) rfl os
  have hj : (os.take 30).length ≤ 30 := by rw [List.length_take]; omega
  generalize (os.take 30).length = j at h hj
  have hn := h.inv.wf.n
  have hc := h.inv.calls
  refine ⟨hj, h.inv.len, h.inv.lenR, h.ns hj (by omega), by omega, by omega, fun i x hx => h.inv.is x (List.mem_of_getElem? hx), h.sem, fun i g x y R Q h1 h2 h3 h4 => ?_⟩
  have a1 := h.inv.is x (List.mem_of_getElem? h1)
  have a2 := h.inv.is y (List.mem_of_getElem? h3)
  by_cases e : y = x
  · rw [decide_eq_true e]
    symm
    rw [sameN_iff]
    intro b hb
    rw [← h.sem i x R h1 h2 b, ← h.sem g y Q h3 h4 b, e]
  · rw [decide_eq_false e]
    cases hs : sameN Q R m with
    | false => rfl
    | true =>
      rw [sameN_iff] at hs
      exact absurd (once_bits h.inv.wf.ok.good k rfl a2 a1 (fun b hb => by rw [h.sem i x R h1 h2 b, h.sem g y Q h3 h4 b]; exact hs b (by omega))) e
end Go.Proofs.Ytloidoekmicloaa
