/-
  Diagrams made of one another in any way: the walk.
-/
import Derived.Test.YtloidoekmicloaaItePl
set_option linter.unusedVariables false
set_option linter.unusedSimpArgs false
set_option linter.unnecessarySimpa false
namespace Go.Proofs.Ytloidoekmicloaa
open Go.ChangeShapes Go.WideShapes Go.ChangeAt Go.RowKit Go.Deep NodePlain
structure OpR where
  kind : Nat
  a : Nat
  b : Nat
  c : Nat
def OpRow (w : World) (ao : Option Addr) (os : List OpR) : Prop :=
  0 < os.length → ∃ b off, ao = some ⟨b, off, none⟩ ∧ b < w.heap.size ∧ ∀ (i : Nat) (r : OpR), os[i]? = some r → (r.kind < 18446744073709551616 ∧ r.a < 18446744073709551616 ∧ r.b < 18446744073709551616 ∧ r.c < 18446744073709551616) ∧
    w.cell? ⟨b, off + i * 4, none⟩ = some (.int .u64 r.kind) ∧ w.cell? ⟨b, off + i * 4 + 1, none⟩ = some (.int .u64 r.a) ∧ w.cell? ⟨b, off + i * 4 + 2, none⟩ = some (.int .u64 r.b) ∧ w.cell? ⟨b, off + i * 4 + 3, none⟩ = some (.int .u64 r.c)
theorem OpRow.keeps {w w' : World} {ao : Option Addr} {os : List OpR} (h : OpRow w ao os) {S : Nat → Prop} (hk : Keeps S w w') (hs : ∀ b off, ao = some ⟨b, off, none⟩ → ¬ S b) : OpRow w' ao os := fun h0 => by
  obtain ⟨b, off, rfl, hlt, hc⟩ := h h0
  have e : ∀ j, w'.cell? ⟨b, j, none⟩ = w.cell? ⟨b, j, none⟩ := fun j => hk.cell (p := ⟨b, j, none⟩) hlt (hs b off rfl)
  refine ⟨b, off, rfl, Nat.lt_of_lt_of_le hlt hk.size, fun i r hr => ?_⟩
  obtain ⟨h1, c0, c1, c2, c3⟩ := hc i r hr
  exact ⟨h1, (e _).trans c0, (e _).trans c1, (e _).trans c2, (e _).trans c3⟩
/-- One diagram more: its number. -/
def stepK (V B : Int) (oa : Nat) (x y t : Int) (st : St) : Nat → Int × St
  | 0 => opG st (makeM V B st ((oa % 8 : Nat) : Int) 0 1)
  | 1 => opG st (iteT V B st x y t)
  | 2 => opG st (iteT V B st x 0 1)
  | 3 => opG st (andT V B [x, y, t] (1, st))
  | 4 => opG st (orT V B [x, y, t] (0, st))
  | 5 => opG st (xorT V B st x y)
  | 6 => opG st (iteT V B st x 0 y)
  | _ => opG st (andT V B [] (1, st))
def iteR (F G H : Nat → Bool) : Nat → Bool := fun i => if F i then G i else H i
/-- .. its row. -/
def rowK (k oa : Nat) (no yes X Y T : Nat → Bool) : Nat → (Nat → Bool)
  | 0 => fun i => decide (oa % 8 < k) && i.testBit (oa % 8)
  | 1 => iteR X Y T
  | 2 => iteR X no yes
  | 3 => iteR X (iteR Y T no) no
  | 4 => iteR X yes (iteR Y yes T)
  | 5 => iteR X (iteR Y no yes) Y
  | 6 => iteR X no Y
  | _ => yes
def callsK : Nat → Nat
  | 3 => 3 | 4 => 3 | 7 => 0 | _ => 1
structure PlS where
  l : List Int
  Rs : List (Nat → Bool)
  st : St
  calls : Nat
def playStep (V B : Int) (k : Nat) (s : PlS) (o : OpR) : PlS :=
  let q := s.l.length
  let x := s.l.getD (o.a % q) 0; let y := s.l.getD (o.b % q) 0; let t := s.l.getD (o.c % q) 0
  let X := s.Rs.getD (o.a % q) (fun _ => false); let Y := s.Rs.getD (o.b % q) (fun _ => false); let T := s.Rs.getD (o.c % q) (fun _ => false)
  let no := s.Rs.getD 0 (fun _ => false); let yes := s.Rs.getD 1 (fun _ => false)
  let r := stepK V B o.a x y t s.st (o.kind % 8)
  ⟨s.l ++ [r.1], s.Rs ++ [rowK k o.a no yes X Y T (o.kind % 8)], r.2, s.calls + callsK (o.kind % 8)⟩
def play0 : PlS := ⟨[0, 1], [fun _ => false, fun _ => true], st0, 0⟩
def playM (V B : Int) (k : Nat) (os : List OpR) : PlS := (os.take 30).foldl (playStep V B k) play0
/-- What a call leaves of what there was. -/
structure Good1 (V : Int) (st : St) (K : Nat) (r : Int × St) : Prop where
  wf : Wf V r.2 (K + 3)
  is : isN r.2.n r.1 = true
  ext : Ext st.L st.n r.2.L r.2.n
section
variable {V B : Int} {st : St} {K : Nat}
theorem opG_good (w : Wf V st K) {r : Int × St} (h : Good1 V st K r) : Good1 V st K (opG st r) := by
  unfold opG
  split
  · exact ⟨w.mono (by omega), is0 _, Ext.refl _ _⟩
  · exact h
theorem iteT_good (hV0 : 0 ≤ V) (hV : V ≤ 8) (w : Wf V st K) {f g h : Int} (hf : isN st.n f = true) (hg : isN st.n g = true) (hh : isN st.n h = true) : Good1 V st K (iteT V B st f g h) := by
  have p := iteT_ok (B := B) hV0 w.ok hf hg hh
  exact ⟨(iteT_wf hV0 hV w hf hg hh).mono (by omega), p.isr, p.ext⟩
theorem step_good (hV0 : 0 ≤ V) (hV : V ≤ 8) (w : Wf V st K) (oa : Nat) {x y t : Int} (hx : isN st.n x = true) (hy : isN st.n y = true) (ht : isN st.n t = true) (c : Nat) : Good1 V st K (stepK V B oa x y t st c) := by
  have h3 : ∀ f, f ∈ [x, y, t] → isN st.n f = true := fun f hf => by
    simp only [List.mem_cons, List.not_mem_nil, or_false] at hf
    rcases hf with rfl | rfl | rfl <;> assumption
  unfold stepK
  split
  · obtain ⟨a, b, c⟩ := make_wf (B := B) w ((oa % 8 : Nat) : Int)
    exact opG_good w ⟨a.mono (by omega), c, b⟩
  · exact opG_good w (iteT_good hV0 hV w hx hy ht)
  · exact opG_good w (iteT_good hV0 hV w hx (is0 _) (is1 _))
  · obtain ⟨a, b, c⟩ := fold_ok (fun st x f => iteT V B st f x 0) (band_step hV0 hV) [x, y, t] (1, st) K w (is1 _) h3
    exact opG_good w ⟨a, b, c⟩
  · obtain ⟨a, b, c⟩ := fold_ok (fun st x f => iteT V B st f 1 x) (bor_step hV0 hV) [x, y, t] (0, st) K w (is0 _) h3
    exact opG_good w ⟨a, b, c⟩
  · have p := iteT_ok (B := B) hV0 w.ok hy (is0 _) (is1 _)
    have w1 := iteT_wf (B := B) hV0 hV w hy (is0 _) (is1 _)
    have p2 := iteT_ok (B := B) hV0 w1.ok (p.ext.is hx) p.isr (p.ext.is hy)
    have w2 := iteT_wf (B := B) hV0 hV w1 (p.ext.is hx) p.isr (p.ext.is hy)
    exact opG_good w ⟨w2.mono (by omega), p2.isr, p.ext.trans p2.ext⟩
  · exact opG_good w (iteT_good hV0 hV w hx (is0 _) hy)
  · exact opG_good w ⟨w.mono (by omega), is1 _, Ext.refl _ _⟩
/-- What holds behind so many diagrams. -/
structure PInv (V : Int) (j : Nat) (s : PlS) : Prop where
  wf : Wf V s.st (3 * j)
  is : ∀ x, x ∈ s.l → isN s.st.n x = true
  len : s.l.length = j + 2
  lenR : s.Rs.length = j + 2
  calls : s.calls ≤ 3 * j
theorem pinv0 (V : Int) : PInv V 0 play0 := ⟨wf0 V, fun x hx => by
  simp only [play0, List.mem_cons, List.not_mem_nil, or_false] at hx
  rcases hx with rfl | rfl
  · exact is0 _
  · exact is1 _, rfl, rfl, Nat.le_refl _⟩
theorem calls_le (c : Nat) : callsK c ≤ 3 := by
  unfold callsK
  split <;> omega
theorem pinv_step (hV0 : 0 ≤ V) (hV : V ≤ 8) {k j : Nat} {s : PlS} (h : PInv V j s) (o : OpR) : PInv V (j + 1) (playStep V B k s o) := by
  have hget : ∀ i, i < s.l.length → isN s.st.n (s.l.getD i 0) = true := fun i hi => by
    rw [List.getD_eq_getElem?_getD, List.getElem?_eq_getElem hi]
    exact h.is _ (List.getElem_mem hi)
  have hq : 0 < s.l.length := by rw [h.len]; omega
  have g := step_good (B := B) hV0 hV h.wf o.a (hget (o.a % s.l.length) (Nat.mod_lt _ hq)) (hget (o.b % s.l.length) (Nat.mod_lt _ hq)) (hget (o.c % s.l.length) (Nat.mod_lt _ hq)) (o.kind % 8)
  refine ⟨g.wf.mono (by omega), fun x hx => ?_, ?_, ?_, ?_⟩
  · rcases List.mem_append.1 hx with hx | hx
    · exact g.ext.is (h.is x hx)
    · simp only [List.mem_cons, List.not_mem_nil, or_false] at hx
      subst hx
      exact g.is
  · show (s.l ++ [_]).length = _
    rw [List.length_append, h.len]; rfl
  · show (s.Rs ++ [_]).length = _
    rw [List.length_append, h.lenR]; rfl
  · show s.calls + callsK _ ≤ _
    have := calls_le (o.kind % 8)
    have := h.calls
    omega
end
end Go.Proofs.Ytloidoekmicloaa
