/-
  A maker behind a play with its list and its rows; what the calls of sat leave of it.
-/
import Derived.Test.YtfakjhcpaiaekaaMQ
import Derived.Test.YtfakjhcpaiaekaaMP
set_option linter.unusedVariables false
set_option linter.unusedSimpArgs false
set_option linter.unnecessarySimpa false
namespace Go.Proofs.Ytfakjhcpaiaekaa
open Go.ChangeShapes Go.WideShapes Go.ChangeAt Go.RowKit Go.Deep NodePlain SatPlain
/-- The rows of a play, beside the maker's blocks. -/
structure RwS (W : World) (F : Nat → Prop) (m rb : Nat) (bs : List Nat) (Rs : List (Nat → Bool)) : Prop where
  r : ∀ (i b : Nat), bs[i]? = some b → W.cell? ⟨rb, i, none⟩ = some (.slice (some ⟨b, 0, none⟩) m m)
  row : ∀ (i b : Nat) (R : Nat → Bool), bs[i]? = some b → Rs[i]? = some R → RowAt W b m R ∧ ¬ F b
  nf : ¬ F rb
  lt : rb < W.heap.size
section
variable {w W W' : World} {F F' : Nat → Prop} {m rb : Nat} {bs : List Nat} {Rs : List (Nat → Bool)}
theorem RwS.move (h : RwS W F m rb bs Rs) (hm : Mv W W' F F') : RwS W' F' m rb bs Rs := by
  refine ⟨fun i b hb => (hm.keeps.cell (p := ⟨rb, i, none⟩) h.lt h.nf).trans (h.r i b hb), fun i b R h1 h2 => ?_, fun hf => ?_, Nat.lt_of_lt_of_le h.lt hm.keeps.size⟩
  · obtain ⟨q1, q2⟩ := h.row i b R h1 h2
    refine ⟨q1.keeps hm.keeps q2, fun hf => ?_⟩
    rcases hm.fp b hf with hf | hf
    · exact q2 hf
    · have := lt_of_heap q1; omega
  · rcases hm.fp rb hf with hf | hf
    · exact h.nf hf
    · have := h.lt; omega
end
/-- A row of numbers, beside the maker's blocks. -/
structure UrF (W : World) (F : Nat → Prop) (v : Value) (l : List Nat) : Prop where
  rd : ReadsU W v l
  nf : ∀ g off n cap, v = .slice (some ⟨g, off, none⟩) n cap → 0 < l.length → ¬ F g
theorem UrF.move {W W' : World} {F F' : Nat → Prop} {v : Value} {l : List Nat} (h : UrF W F v l) (hm : Mv W W' F F') : UrF W' F' v l := by
  obtain ⟨⟨ao, cap, hv, hle, hr⟩, h2⟩ := h
  refine ⟨⟨ao, cap, hv, hle, fun h0 => ?_⟩, fun g off n c e h0 hf => ?_⟩
  · obtain ⟨g, off, e1, e2, e3⟩ := hr h0
    have hnf := h2 g off l.length cap (by rw [hv, e1]) h0
    exact ⟨g, off, e1, Nat.lt_of_lt_of_le e2 hm.keeps.size, fun j x hj => (hm.keeps.cell (p := ⟨g, off + j, none⟩) e2 hnf).trans (e3 j x hj)⟩
  · obtain ⟨g', off', e1, e2, e3⟩ := hr h0
    rw [hv, e1] at e
    simp only [Value.slice.injEq, Option.some.injEq, Addr.mk.injEq, and_true] at e
    obtain ⟨⟨rfl, rfl⟩, _, _⟩ := e
    rcases hm.fp _ hf with hf | hf
    · exact h2 _ _ _ _ (by rw [hv, e1]) h0 hf
    · omega
/-- A row of its own, new. -/
theorem UrF.own {w W : World} {F : Nat → Prop} {v : Value} {l : List Nat} (h : OwnU w W v l) (hF : ∀ x, F x → x < w.heap.size) : UrF W F v l := by
  refine ⟨OwnU.reads h, fun g off n cap e h0 hf => ?_⟩
  have h1 := own_block h g (by rw [e]; rfl)
  have := hF g hf
  omega
/-- The maker and the rows, so many calls on. -/
structure SatSt (w W : World) (k : Nat) (s : PlS) (c d lb rb m : Nat) (bs : List Nat) (st : St) (kc : Nat) (calls : Int) (F : Nat → Prop) : Prop where
  ms : MkS w W k s (c * 64) c d lb st kc calls F
  r : RwS W F m rb bs s.Rs
section
variable {w W W' : World} {k : Nat} {s : PlS} {c d lb rb m : Nat} {bs : List Nat} {st st' : St} {kc kc' : Nat} {calls calls' : Int} {F F' : Nat → Prop}
theorem SatSt.gone (h : SatSt w W k s c d lb rb m bs st kc calls F) (hk6 : k ≤ 6) {u : Nat} (g : GoneR W d (k : Int) 1048576 st kc calls F u st' kc' calls' F' W') : SatSt w W' k s (c + u) d lb rb m bs st' kc' calls' F' := by
  have h1 := h.ms.n
  have h2 := h.ms.kc
  have h3 := h.ms.c0
  have h4 := h.ms.c1
  have g1 := g.kc
  have g2 := g.nn
  have g3 := g.c0
  have g4 := g.c1
  have hp := Nat.mul_le_mul_left u (pow6 hk6)
  exact ⟨h.ms.move g.bd g.mv g.fine g.ext (by rw [Nat.add_mul]; omega) (by omega) (by omega) (by omega), h.r.move g.mv⟩
theorem SatSt.quiet (h : SatSt w W k s c d lb rb m bs st kc calls F) (hk : Keeps (fun _ => False) W W') : SatSt w W' k s c d lb rb m bs st kc calls F := ⟨h.ms.quiet hk, h.r.move (Mv.quiet hk)⟩
theorem SatSt.wider (h : SatSt w W k s c d lb rb m bs st kc calls F) {c' : Nat} (hc : c ≤ c') : SatSt w W k s c' d lb rb m bs st kc calls F := ⟨h.ms.more (Nat.mul_le_mul_right _ hc) hc, h.r⟩
/-- First, of any diagram. -/
theorem SatSt.first (h : SatSt w W k s c d lb rb m bs st kc calls F) (hk6 : k ≤ 6) (hc : c ≤ 14000) {f : Int} {E : (Nat → Bool) → Bool} (hN : Num st f E) (n : Int) :
    Calls Try.prog 13 #[.pointer (some ⟨d, 0, none⟩), .int .i64 f, .int .i64 n] W fun e W' => ∃ vo st' K' c' F', e = .returned vo ∧ Hid (GoneR W d k 1048576 st kc calls F 126 st' K' c' F' W' ∧ ReadsU W' vo ((onL E 0 (2 ^ k)).take (max 0 (min n 1000)).toNat)) := by
  have h1 := h.ms.n
  have h2 := h.ms.kc
  have hfI := isN_iff.1 hN.is
  have hcF : costF k ≤ 126 := by
    match k, hk6 with
    | 0, _ => decide
    | 1, _ => decide
    | 2, _ => decide
    | 3, _ => decide
    | 4, _ => decide
    | 5, _ => decide
    | 6, _ => decide
  have hp := Nat.mul_le_mul hcF (pow6 hk6)
  by_cases h0 : f = 0
  · subst h0
    refine (first_no h.ms.bd (by omega) 0 (by omega) (by rfl) n).mono ?_
    rintro e W' ⟨rfl, rfl⟩
    refine ⟨_, st, kc, calls, F, rfl, (GoneR.none h.ms.bd h.ms.fine).more (Nat.zero_le _), ?_⟩
    have hz : onL E 0 (2 ^ k) = [] := by
      unfold onL
      rw [List.filter_eq_nil_iff]
      intro b _
      rw [← hN.ev, ev_low _ _ 0 (by omega)]
      decide
    rw [hz, List.take_nil]
    exact ⟨none, 0, rfl, Nat.le_refl _, fun h => absurd h (by simp)⟩
  · refine (first_spec h.ms.bd hk6 h.ms.fine (by omega) hN h0 n (by omega)).mono ?_
    rintro e W' ⟨vo, st', F', rfl, hr⟩
    exact ⟨vo, st', _, _, F', rfl, hr.out.gone.more hcF, hr.out.row.reads⟩
/-- Least, of any diagram. -/
theorem SatSt.least (h : SatSt w W k s c d lb rb m bs st kc calls F) (hk6 : k ≤ 6) (hc : c ≤ 14000) {f : Int} {E : (Nat → Bool) → Bool} (hN : Num st f E) :
    Calls Try.prog 16 #[.pointer (some ⟨d, 0, none⟩), .int .i64 f] W fun e W' => ∃ (a : Nat) (st' : St) (K' : Nat) (c' : Int) (F' : Nat → Prop), e = .returned (.tuple #[.int .u64 (a : Int), .bool (!decide (f = 0))]) ∧ Hid (GoneR W d k 1048576 st kc calls F 126 st' K' c' F' W' ∧ (f = 0 → a = 0) ∧ (f ≠ 0 → (onL E 0 (2 ^ k))[0]? = some a)) := by
  have h1 := h.ms.n
  have h2 := h.ms.kc
  have hfI := isN_iff.1 hN.is
  have hcF : costF k ≤ 126 := by
    match k, hk6 with
    | 0, _ => decide
    | 1, _ => decide
    | 2, _ => decide
    | 3, _ => decide
    | 4, _ => decide
    | 5, _ => decide
    | 6, _ => decide
  have hp := Nat.mul_le_mul hcF (pow6 hk6)
  by_cases h0 : f = 0
  · subst h0
    refine (least_no h.ms.bd (by omega) 0 (by omega) (by rfl)).mono ?_
    rintro e W' ⟨rfl, rfl⟩
    exact ⟨0, st, kc, calls, F, rfl, (GoneR.none h.ms.bd h.ms.fine).more (Nat.zero_le _), fun _ => rfl, fun h => absurd rfl h⟩
  · refine (least_spec h.ms.bd hk6 h.ms.fine (by omega) hN h0 (by omega)).mono ?_
    rintro e W' ⟨x, st', F', rfl, hr⟩
    refine ⟨x, st', _, _, F', by rw [decide_eq_false h0]; rfl, hr.out.gone.more hcF, fun h => absurd h h0, fun _ => ?_⟩
    have := hr.out.head
    rw [List.head?_eq_getElem?] at this
    exact this
/-- Greatest, of any diagram. -/
theorem SatSt.great (h : SatSt w W k s c d lb rb m bs st kc calls F) (hk6 : k ≤ 6) (hc : c ≤ 13000) {f : Int} {E : (Nat → Bool) → Bool} (hN : Num st f E) :
    Calls Try.prog 17 #[.pointer (some ⟨d, 0, none⟩), .int .i64 f] W fun e W' => ∃ (a : Nat) (st' : St) (K' : Nat) (c' : Int) (F' : Nat → Prop), e = .returned (.tuple #[.int .u64 (a : Int), .bool (!decide (f = 0))]) ∧ Hid (GoneR W d k 1048576 st kc calls F 36 st' K' c' F' W' ∧ (f = 0 → a = 0) ∧ (f ≠ 0 → (onL E 0 (2 ^ k))[(onL E 0 (2 ^ k)).length - 1]? = some a)) := by
  have h1 := h.ms.n
  have h2 := h.ms.kc
  have h3 := h.ms.c0
  have h4 := h.ms.c1
  have hfI := isN_iff.1 hN.is
  have hp := Nat.mul_le_mul_left 36 (pow6 hk6)
  by_cases h0 : f = 0
  · subst h0
    refine (greatest_no h.ms.bd (by omega) 0 (by omega) (by rfl)).mono ?_
    rintro e W' ⟨rfl, rfl⟩
    exact ⟨0, st, kc, calls, F, rfl, (GoneR.none h.ms.bd h.ms.fine).more (Nat.zero_le _), fun _ => rfl, fun h => absurd rfl h⟩
  · have hs : ∃ b, b < 2 ^ k ∧ E (Nat.testBit b) = true := by
      obtain ⟨b, hb, e⟩ := way_some h.ms.fine.wf.ok.good hN.is h0
      exact ⟨b, hb, by rw [← hN.ev]; exact e⟩
    refine (greatest_gen h.ms.bd hk6 h.ms.fine (by omega) h3 (by omega) (by omega) hN h0 hs (by omega)).mono ?_
    rintro e W' ⟨q, rfl, f', hr⟩
    obtain ⟨st', K', c', F', T, g, _, ht⟩ := hr.out
    obtain ⟨d1, d2, d3⟩ := ht.done
    refine ⟨q, st', K', c', F', by rw [decide_eq_false h0]; rfl, g, fun h => absurd h h0, fun _ => last_max (on_rises _ _) ?_ (fun b hb => ?_)⟩
    · unfold onL
      rw [List.mem_filter, List.mem_range'_1]
      exact ⟨⟨by omega, by omega⟩, d2⟩
    · unfold onL at hb
      rw [List.mem_filter, List.mem_range'_1] at hb
      exact d3 b (by omega) hb.2
end
/-- The law's list is the same. -/
theorem bits_on {E : (Nat → Bool) → Bool} {R : Nat → Bool} {m : Nat} (h : ∀ b, E (Nat.testBit b) = R b) : bitsR R m = onL E 0 m := by
  unfold bitsR onL
  rw [List.range_eq_range']
  exact List.filter_congr (fun b _ => (h b).symm)
/-- Never, and always, by how many there are. -/
theorem on_len {k : Nat} {st : St} {f : Int} {E : (Nat → Bool) → Bool} (g : NodePlain.Good (k : Int) st.L st.n) (hN : Num st f E) : (f = 0 ↔ (onL E 0 (2 ^ k)).length = 0) ∧ (f = 1 ↔ (onL E 0 (2 ^ k)).length = 2 ^ k) := by
  have h0n : isN st.n 0 = true := isN_iff.2 ⟨by omega, by omega⟩
  have h1n : isN st.n 1 = true := isN_iff.2 ⟨by omega, by omega⟩
  constructor
  · constructor
    · rintro rfl
      unfold onL
      rw [List.length_eq_zero_iff, List.filter_eq_nil_iff]
      intro b _
      rw [← hN.ev, ev_low _ _ 0 (by omega)]
      decide
    · intro h
      refine once_bits g k rfl hN.is h0n (fun b hb => ?_)
      rw [List.length_eq_zero_iff] at h
      unfold onL at h
      rw [List.filter_eq_nil_iff] at h
      have := h b (by rw [List.mem_range'_1]; omega)
      rw [hN.ev, ev_low _ _ 0 (by omega)]
      simpa using this
  · constructor
    · rintro rfl
      have : onL E 0 (2 ^ k) = List.range' 0 (2 ^ k) := by
        unfold onL
        rw [List.filter_eq_self]
        intro b _
        rw [← hN.ev, ev_low _ _ 1 (by omega)]
        rfl
      rw [this, List.length_range']
    · intro h
      have he : onL E 0 (2 ^ k) = List.range' 0 (2 ^ k) := by
        unfold onL at h ⊢
        exact (List.filter_sublist (l := List.range' 0 (2 ^ k))).eq_of_length (by rw [h, List.length_range'])
      refine once_bits g k rfl hN.is h1n (fun b hb => ?_)
      have hm : b ∈ onL E 0 (2 ^ k) := by rw [he, List.mem_range'_1]; omega
      unfold onL at hm
      rw [List.mem_filter] at hm
      rw [hN.ev, hm.2, ev_low _ _ 1 (by omega)]
      rfl
end Go.Proofs.Ytfakjhcpaiaekaa
