/-
  The calls of a law, in memory; where a law stands.
-/
import Derived.Test.YtaabmkebbnkonaaDoorLiveLives
import Derived.Test.YtaabmkebbnkonaaDoorRefEval
set_option linter.unusedVariables false
set_option linter.unusedSimpArgs false
set_option linter.unnecessarySimpa false
namespace Go.Proofs.YtaabmkebbnkonaaDoor
open Go.ChangeShapes Go.WideShapes Go.ChangeAt Go.RowKit Go.Deep SetPlain
/-- A call: Add, or (odd) Drop. -/
structure LOp where
  kind : Nat
  rule : Rl
def LOpRow (w : World) (ao : Option Addr) (os : List LOp) : Prop := 0 < os.length → ∃ g k, ao = some ⟨g, k, none⟩ ∧ g < w.heap.size ∧ ∀ (i : Nat) (x : LOp), os[i]? = some x →
  w.cell? ⟨g, k + i * 7, none⟩ = some (.int .u64 x.kind) ∧ w.cell? ⟨g, k + i * 7 + 1, none⟩ = some (.int .i64 x.rule.kind) ∧ w.cell? ⟨g, k + i * 7 + 2, none⟩ = some (.int .i64 x.rule.head) ∧ w.cell? ⟨g, k + i * 7 + 3, none⟩ = some (.int .i64 x.rule.who) ∧ w.cell? ⟨g, k + i * 7 + 4, none⟩ = some (.int .i64 x.rule.a) ∧ w.cell? ⟨g, k + i * 7 + 5, none⟩ = some (.int .i64 x.rule.b) ∧ w.cell? ⟨g, k + i * 7 + 6, none⟩ = some (.int .i64 x.rule.via)
theorem LOpRow.keeps {w w' : World} {ao : Option Addr} {os : List LOp} (h : LOpRow w ao os) (hk : Keeps (fun _ => False) w w') : LOpRow w' ao os := fun h0 => by
  obtain ⟨g, k, rfl, hg, hc⟩ := h h0
  refine ⟨g, k, rfl, Nat.lt_of_lt_of_le hg hk.size, fun i x hx => ?_⟩
  obtain ⟨c0, c1, c2, c3, c4, c5, c6⟩ := hc i x hx
  have e : ∀ j, w'.cell? ⟨g, j, none⟩ = w.cell? ⟨g, j, none⟩ := fun j => hk.cell (p := ⟨g, j, none⟩) hg (fun x => x)
  exact ⟨(e _).trans c0, (e _).trans c1, (e _).trans c2, (e _).trans c3, (e _).trans c4, (e _).trans c5, (e _).trans c6⟩
theorem IsRow.lops {w : World} {ao : Option Addr} {n cap : Nat} {G : Nat → Nat → Value} (R : IsRow w [.int .u64, .int .i64, .int .i64, .int .i64, .int .i64, .int .i64, .int .i64] ao n cap G) :
    ∃ os : List LOp, os.length = n ∧ LOpRow w ao os ∧ ∀ x, x ∈ os → x.kind < 18446744073709551616 := by
  have key : ∀ i, i < n → ∃ x : LOp, (G i 0 = .int .u64 x.kind ∧ G i 1 = .int .i64 x.rule.kind ∧ G i 2 = .int .i64 x.rule.head ∧ G i 3 = .int .i64 x.rule.who ∧ G i 4 = .int .i64 x.rule.a ∧ G i 5 = .int .i64 x.rule.b ∧ G i 6 = .int .i64 x.rule.via) ∧ x.kind < 18446744073709551616 := fun i hi => by
    obtain ⟨z0, h0, w0⟩ := R.ok i 0 _ hi rfl
    obtain ⟨z1, h1, _⟩ := R.ok i 1 _ hi rfl
    obtain ⟨z2, h2, _⟩ := R.ok i 2 _ hi rfl
    obtain ⟨z3, h3, _⟩ := R.ok i 3 _ hi rfl
    obtain ⟨z4, h4, _⟩ := R.ok i 4 _ hi rfl
    obtain ⟨z5, h5, _⟩ := R.ok i 5 _ hi rfl
    obtain ⟨z6, h6, _⟩ := R.ok i 6 _ hi rfl
    have b0 := bounds_u64 w0
    refine ⟨⟨z0.toNat, ⟨z1, z2, z3, z4, z5, z6⟩⟩, ⟨?_, h1, h2, h3, h4, h5, h6⟩, ?_⟩
    · rw [h0]; show Value.int .u64 z0 = .int .u64 (z0.toNat : Int); rw [Int.toNat_of_nonneg b0.1]
    · show z0.toNat < _; omega
  have : Inhabited LOp := ⟨⟨0, ⟨0, 0, 0, 0, 0, 0⟩⟩⟩
  obtain ⟨f, hf⟩ := choose_lt key
  refine ⟨(List.range n).map f, by simp, fun h0 => ?_, fun r hr => ?_⟩
  · obtain ⟨b, off, h1, h2, h3⟩ := R.at_ (by simpa using h0)
    refine ⟨b, off, h1, h2, fun i r hr => ?_⟩
    have hi : i < n := by
      rcases Nat.lt_or_ge i n with h | h
      · exact h
      · rw [List.getElem?_eq_none (by simpa using h)] at hr; cases hr
    obtain ⟨⟨g0, g1, g2, g3, g4, g5, g6⟩, _⟩ := hf i hi
    simp [hi] at hr
    subst hr
    rw [← g0, ← g1, ← g2, ← g3, ← g4, ← g5, ← g6]
    exact ⟨h3 i 0 hi (by decide), h3 i 1 hi (by decide), h3 i 2 hi (by decide), h3 i 3 hi (by decide), h3 i 4 hi (by decide), h3 i 5 hi (by decide), h3 i 6 hi (by decide)⟩
  · obtain ⟨i, hi, rfl⟩ := List.mem_map.1 hr
    exact (hf i (List.mem_range.1 hi)).2
/-- Where a law stands: what is there now, and that all else is as it was. -/
structure LvS (W0 W : World) (lb P K : Nat) (rs : List Rl) (Fp : Nat → Prop) : Prop where
  is : LvIs W0.heap.size W lb P K rs Fp
  kp : Keeps (fun _ => False) W0 W
  fp : ∀ k, Fp k → W0.heap.size ≤ k
section
variable {W0 W W' : World} {lb P K : Nat} {rs rs' : List Rl} {Fp Fp' : Nat → Prop}
theorem LvS.quiet (h : LvS W0 W lb P K rs Fp) (hk : Keeps (fun _ => False) W W') : LvS W0 W' lb P K rs Fp := ⟨h.is.quiet hk, h.kp.trans hk, h.fp⟩
theorem LvS.move (h : LvS W0 W lb P K rs Fp) (hl : LvIs W0.heap.size W' lb P K rs' Fp') (hm : MvF W W' Fp Fp') : LvS W0 W' lb P K rs' Fp' :=
  ⟨hl, (hm.from h.kp h.fp).1, (hm.from h.kp h.fp).2⟩
theorem LvS.tab (h : LvS W0 W lb P K rs Fp) (hT : TabIn W0) : TabIn W := hT.keeps h.kp (fun x => x)
theorem LvIs.nodup {z : Nat} (h : LvIs z W lb P K rs Fp) : rs.Nodup := by
  obtain ⟨_, _, _, _, _, _, _, h2, _⟩ := h
  exact h2
theorem LvIs.right {z : Nat} (h : LvIs z W lb P K rs Fp) : ∀ r ∈ rs, rightB P K r = true := by
  obtain ⟨_, _, _, _, _, _, h1, _⟩ := h
  exact h1.right
theorem LvS.add (h : LvS W0 W lb P K rs Fp) (hT : TabIn W0) (hlen : rs.length ≤ 900) (r : Rl) :
    Calls Tryd.prog 8 #[.pointer (some ⟨lb, 0, none⟩), .agg #[.int .i64 r.kind, .int .i64 r.head, .int .i64 r.who, .int .i64 r.a, .int .i64 r.b, .int .i64 r.via]] W
      fun e W' => ∃ u code rs' ans Fp', e = .returned (.tuple #[u, .int .i64 code]) ∧ Hid (LvS W0 W' lb P K rs' Fp' ∧ MvF W W' Fp Fp' ∧ ReadsP W' u ans ∧ (∀ k, u.ownBlock = some k → W.heap.size ≤ k) ∧ AddR P K rs r rs' ans code) := by
  refine (add_spec h.is hT.lt h.kp.size (h.tab hT) hlen r).mono ?_
  rintro e W' ⟨u, code, rs', ans, Fp', rfl, hp⟩
  exact ⟨u, code, rs', ans, Fp', rfl, h.move hp.out.1 hp.out.2.1, hp.out.2⟩
theorem LvS.drop (h : LvS W0 W lb P K rs Fp) (hT : TabIn W0) (hlen : rs.length ≤ 900) (r : Rl) :
    Calls Tryd.prog 9 #[.pointer (some ⟨lb, 0, none⟩), .agg #[.int .i64 r.kind, .int .i64 r.head, .int .i64 r.who, .int .i64 r.a, .int .i64 r.b, .int .i64 r.via]] W
      fun e W' => ∃ u code rs' ans Fp', e = .returned (.tuple #[u, .int .i64 code]) ∧ Hid (LvS W0 W' lb P K rs' Fp' ∧ MvF W W' Fp Fp' ∧ ReadsP W' u ans ∧ (∀ k, u.ownBlock = some k → W.heap.size ≤ k) ∧ DropR P K rs r rs' ans code) := by
  refine (drop_spec h.is hT.lt h.kp.size (h.tab hT) hlen r).mono ?_
  rintro e W' ⟨u, code, rs', ans, Fp', rfl, hp⟩
  exact ⟨u, code, rs', ans, Fp', rfl, h.move hp.out.1 hp.out.2.1, hp.out.2⟩
end
theorem AddR.len {P K : Nat} {rs rs' : List Rl} {r : Rl} {ans : List (Nat × Nat)} {code : Int} (h : AddR P K rs r rs' ans code) : rs'.length ≤ rs.length + 1 := by
  rcases h with ⟨_, rfl, _⟩ | ⟨_, _, rfl, _⟩ | ⟨_, _, rfl, _⟩ <;> simp
theorem DropR.len {P K : Nat} {rs rs' : List Rl} {r : Rl} {ans : List (Nat × Nat)} {code : Int} (h : DropR P K rs r rs' ans code) : rs'.length ≤ rs.length + 1 := by
  rcases h with ⟨_, rfl, _⟩ | ⟨i, _, rfl, _⟩
  · omega
  · have := List.length_eraseIdx_le rs i; omega
/-- Of rules without doubles, the first that is left goes. -/
theorem DropR.head {P K j : Nat} {rs rs' : List Rl} {r : Rl} {ans : List (Nat × Nat)} {code : Int} (hn : rs.Nodup) (hj : rs[j]? = some r) (h : DropR P K (rs.drop j) r rs' ans code) : rs' = rs.drop (j + 1) ∧ code = 0 := by
  have hlt : j < rs.length := by
    rcases Nat.lt_or_ge j rs.length with h | h
    · exact h
    · rw [List.getElem?_eq_none h] at hj; cases hj
  have hd : rs.drop j = r :: rs.drop (j + 1) := by
    rw [List.drop_eq_getElem_cons hlt]
    congr 1
    rw [List.getElem?_eq_getElem hlt] at hj
    exact Option.some.inj hj
  rcases h with ⟨h, _⟩ | ⟨i, hi, rfl, _, hc⟩
  · rw [hd] at h; exact absurd List.mem_cons_self h
  · refine ⟨?_, hc⟩
    have hnd : (rs.drop j).Nodup := hn.sublist (List.drop_sublist j rs)
    rw [hd] at hi hnd ⊢
    cases i with
    | zero => rfl
    | succ i =>
      rw [List.getElem?_cons_succ] at hi
      exact absurd (List.mem_of_getElem? hi) (List.nodup_cons.1 hnd).1
/-- Who is in by the document, as a function. -/
theorem in_same {P N : Nat} {Q : Nat → Nat → Prop} {A B : Nat → Nat → Bool} (ha : ∀ i c, A i c = true ↔ i < N ∧ c < P ∧ Q i c) (hb : ∀ i c, B i c = true ↔ i < N ∧ c < P ∧ Q i c) : A = B := by
  funext i c
  rw [Bool.eq_iff_iff, ha, hb]
theorem no_tot {P N K : Nat} {In : Nat → Nat → Bool} (h : ∀ i c, In i c = true ↔ i < N ∧ c < P ∧ Der K [] i c) : totIn P N In = 0 := by
  have e : In = fun _ _ => false := by
    funext i c
    cases e : In i c with
    | false => rfl
    | true => exact absurd ((h i c).1 e).2.2 (der_none _ _ _)
  rw [e, totIn_zero]
theorem mem_list {P N : Nat} {Q : Nat → Nat → Prop} {F : Nat → Nat → Bool} (hf : ∀ i c, F i c = true ↔ i < N ∧ c < P ∧ Q i c) {i : Nat} {l : List Nat} (hl : l.Pairwise (· < ·)) (hm : ∀ c, c ∈ l ↔ 0 ≤ (i : Int) ∧ (i : Int).toNat < N ∧ c < P ∧ Q (i : Int).toNat c) : l = listTo (F i) P :=
  order_eq (R := (· < ·)) (fun a => Nat.lt_irrefl a) (fun a b h => by omega) _ _ hl (listTo_rises _ _) (fun c => by
    rw [hm, listTo_iff, hf]
    simp only [Int.toNat_natCast]
    constructor
    · rintro ⟨_, h1, h2, h3⟩; exact ⟨h2, h1, h2, h3⟩
    · rintro ⟨h1, h2, _, h3⟩; exact ⟨by omega, h2, h1, h3⟩)
/-- The document's answer of rules that are all right, from a world on in which only new memory is written. -/
theorem reval_live {p k : Int} {P K : Nat} (hP : Within p 64 P) (hK : Within k 64 K) (hp : p ≤ 64) (hk0 : k ≤ 64) {rs : List Rl} {n : Nat} (hrs : rs.length = n) (hn : n ≤ 1000) {ao : Option Addr} {cap : Nat} (hcap : n ≤ cap) {W : World} (hR : RuleRow W ao rs) (hr : ∀ r ∈ rs, rightB P K r = true) :
    Calls Tryd.prog 10 #[.int .i64 p, .int .i64 k, .slice ao n cap] W fun e W' => ∃ b, e = .returned (.pointer (some ⟨b, 0, none⟩)) ∧ Hid (Keeps (fun _ => False) W W' ∧ ∃ ao1 cap1 rb F, RefM W' b ao1 cap1 rb P K (P * K) F ∧ ∀ i c, F i c = true ↔ i < P * K ∧ c < P ∧ Der K rs i c) := by
  refine (reval_spec p k P K hP hK hp hk0 rs n hrs hn ao cap W hR hcap).mono ?_
  rintro e W' ⟨b, rfl, hl⟩
  obtain ⟨ao1, cap1, rb, F, hre, hsnd, hder⟩ := hl.out
  have hflt : rs.filter (fun x => rightB P K x) = rs := List.filter_eq_self.2 hr
  rw [hflt] at hsnd hder
  exact ⟨b, rfl, Keeps.of_below hre.base (Nat.le_refl _), ao1, cap1, rb, F, hre.mem, fun i c => ⟨fun h => hsnd i c h, fun h => hder i c h.2.2⟩⟩
end Go.Proofs.YtaabmkebbnkonaaDoor
