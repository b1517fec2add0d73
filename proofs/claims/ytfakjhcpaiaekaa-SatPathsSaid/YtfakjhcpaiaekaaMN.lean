/-
  The first numbers at which a diagram is true: the walk of the closure.
-/
import Derived.Test.YtfakjhcpaiaekaaSatFirstPlain
import Derived.Test.YtfakjhcpaiaekaaMM
import Derived.Test.YtfakjhcpaiaekaaMP
set_option linter.unusedVariables false
set_option linter.unusedSimpArgs false
set_option linter.unnecessarySimpa false
namespace Go.Proofs.Ytfakjhcpaiaekaa
open Go.ChangeShapes Go.WideShapes Go.ChangeAt Go.RowKit Go.Deep NodePlain SatPlain
theorem ownsRow_up {w : World} {base base' e size : Nat} {v : Value} {n : Nat} {xs : List Value} (h : w.ownsRow base e size v n xs) (hb : ∀ k, v.ownBlock = some k → base' ≤ k) : w.ownsRow base' e size v n xs := by
  obtain ⟨hl, ⟨rfl, rfl⟩ | ⟨g, cap, cur, rfl, hg, r⟩⟩ := h
  · exact ⟨hl, .inl ⟨rfl, rfl⟩⟩
  · exact ⟨hl, .inr ⟨g, cap, cur, rfl, hb g rfl, r⟩⟩
def fnHv (dx : Nat) : Value := .func (.func 67) #[] #[.pointer (some ⟨dx, 0, none⟩)]
def fnG (ox nx hx sx : Nat) : Value := .func (.func 69) #[] #[.pointer (some ⟨ox, 0, none⟩), .pointer (some ⟨nx, 0, none⟩), .pointer (some ⟨hx, 0, none⟩), .pointer (some ⟨sx, 0, none⟩)]
/-- How much is made. -/
def costF : Nat → Nat
  | 0 => 0
  | w + 1 => 2 + 2 * costF w
/-- The blocks that may turn. -/
def Qg (Fp : Nat → Prop) (ox b : Nat) : Nat → Prop := fun y => Fp y ∨ y = ox ∨ b ≤ y
/-- What the closure captured, the maker, and the row told so far. -/
structure GMem (w0 W : World) (d : Nat) (V B : Int) (st : St) (calls : Int) (Fp : Nat → Prop) (dx ox nx hx sx : Nat) (n : Nat) (vo : Value) (l : List Nat) : Prop where
  bd : Bd W d V B st calls Fp
  co : W.heap[ox]? = some (.cells #[vo] 31 (0, 0))
  cd : W.cell? ⟨dx, 0, none⟩ = some (.pointer (some ⟨d, 0, none⟩))
  cn : W.cell? ⟨nx, 0, none⟩ = some (.int .i64 n)
  ch : W.cell? ⟨hx, 0, none⟩ = some (fnHv dx)
  cs : W.cell? ⟨sx, 0, none⟩ = some (fnG ox nx hx sx)
  own : OwnU w0 W vo l
  ob : ∀ y, vo.ownBlock = some y → ¬ Fp y
  lt : dx < w0.heap.size ∧ ox < w0.heap.size ∧ nx < w0.heap.size ∧ hx < w0.heap.size ∧ sx < w0.heap.size
  ne : dx ≠ ox ∧ nx ≠ ox ∧ hx ≠ ox ∧ sx ≠ ox
  nf : ¬ Fp dx ∧ ¬ Fp ox ∧ ¬ Fp nx ∧ ¬ Fp hx ∧ ¬ Fp sx
  big : w0.heap.size ≤ W.heap.size
section
variable {w0 W W' : World} {d : Nat} {V B : Int} {st st' : St} {calls : Int} {Fp Fp' : Nat → Prop} {dx ox nx hx sx : Nat} {n : Nat} {vo : Value} {l : List Nat} {k : Nat}
theorem GMem.move (h : GMem w0 W d V B st calls Fp dx ox nx hx sx n vo l) (hb : Bd W' d V B st' calls Fp') (m : Mv W W' Fp Fp') : GMem w0 W' d V B st' calls Fp' dx ox nx hx sx n vo l := by
  obtain ⟨l1, l2, l3, l4, l5⟩ := h.lt
  obtain ⟨f1, f2, f3, f4, f5⟩ := h.nf
  have bg := h.big
  have hs := m.keeps.size
  have nn : ∀ {x : Nat}, x < w0.heap.size → ¬ Fp x → ¬ Fp' x := fun {x} hx hn hq => by
    rcases m.fp x hq with e | e
    · exact hn e
    · omega
  have cc : ∀ {x : Nat} {v : Value}, x < w0.heap.size → ¬ Fp x → W.cell? ⟨x, 0, none⟩ = some v → W'.cell? ⟨x, 0, none⟩ = some v := fun {x v} hx hn hc => (m.keeps.cell (p := ⟨x, 0, none⟩) (by show x < _; omega) hn).trans hc
  refine ⟨hb, (m.keeps.block ox (by omega) f2).trans h.co, cc l1 f1 h.cd, cc l3 f3 h.cn, cc l4 f4 h.ch, cc l5 f5 h.cs, ownsRow_keeps' h.own m.keeps (fun y hy => h.ob y hy), fun y hy hq => ?_, h.lt, h.ne, ⟨nn l1 f1, nn l2 f2, nn l3 f3, nn l4 f4, nn l5 f5⟩, by omega⟩
  rcases m.fp y hq with e | e
  · exact h.ob y hy e
  · have := own_lt h.own y hy
    omega
theorem GMem.quiet (h : GMem w0 W d V B st calls Fp dx ox nx hx sx n vo l) (hk : Keeps (fun _ => False) W W') : GMem w0 W' d V B st calls Fp dx ox nx hx sx n vo l := h.move (h.bd.quiet hk) (Mv.quiet hk)
/-- One number more, and the row put back. -/
theorem GMem.put (h : GMem w0 W d V B st calls Fp dx ox nx hx sx n vo l) {v2 : Value} {l2 : List Nat} (hg : W.grownBy W' vo.ownBlock) (hown : OwnU w0 W' v2 l2) (hb2 : ∀ y, v2.ownBlock = some y → vo.ownBlock = some y ∨ W.heap.size ≤ y) :
    GMem w0 (W'.setCell ⟨ox, 0, none⟩ v2) d V B st calls Fp dx ox nx hx sx n v2 l2 ∧ Keeps (Qg Fp ox w0.heap.size) W (W'.setCell ⟨ox, 0, none⟩ v2) := by
  have kg := keeps_grown hg
  obtain ⟨l1, l2', l3, l4, l5⟩ := h.lt
  obtain ⟨f1, f2, f3, f4, f5⟩ := h.nf
  obtain ⟨e1, e2, e3, e4⟩ := h.ne
  have bg := h.big
  have hs := kg.size
  have hob : ∀ y, vo.ownBlock = some y → w0.heap.size ≤ y := fun y hy => own_block h.own y hy
  have kk : Keeps (fun y => vo.ownBlock = some y ∨ y = ox) W (W'.setCell ⟨ox, 0, none⟩ v2) := (kg.mono (fun _ _ e => .inl e)).setCell (fun _ => .inr rfl) _
  have cc : ∀ {x : Nat} {v : Value}, x < w0.heap.size → x ≠ ox → W.cell? ⟨x, 0, none⟩ = some v → (W'.setCell ⟨ox, 0, none⟩ v2).cell? ⟨x, 0, none⟩ = some v := fun {x v} hx hn hc => (kk.cell (p := ⟨x, 0, none⟩) (by show x < _; omega) (fun hq => hq.elim (fun e => by have := hob x e; omega) (fun e => hn e))).trans hc
  have hco : W'.heap[ox]? = some (.cells #[vo] 31 (0, 0)) := (kg.block ox (by omega) (fun e => by have := hob ox e; omega)).trans h.co
  have hb2' : ∀ y, v2.ownBlock = some y → w0.heap.size ≤ y := fun y hy => own_block hown y hy
  refine ⟨⟨h.bd.keeps kk (fun x hx hq => ?_), by rw [heap_set hco 0 _]; rfl, cc l1 e1 h.cd, cc l3 e2 h.cn, cc l4 e3 h.ch, cc l5 e4 h.cs, ownsRow_keeps' hown ((Keeps.refl (fun y => y = ox) W').setCell (fun _ => rfl) _) (fun y hy e => by have := hb2' y hy; omega), fun y hy hq => ?_, h.lt, h.ne, h.nf, by have := kk.size; omega⟩, kk.mono (fun y _ hq => hq.elim (fun e => .inr (.inr (hob y e))) (fun e => .inr (.inl e)))⟩
  · rcases hq with e | e
    · exact h.ob x e hx
    · exact f2 (e ▸ hx)
  · rcases hb2 y hy with e | e
    · exact h.ob y e hq
    · have := h.bd.lt y hq; omega
/-- What the closure leaves. -/
structure GEnd (w0 W : World) (d : Nat) (V B : Int) (st : St) (K : Nat) (calls : Int) (Fp : Nat → Prop) (dx ox nx hx sx : Nat) (n : Nat) (l : List Nat) (S : (Nat → Bool) → Bool) (w q : Nat) (vo' : Value) (st' : St) (F' : Nat → Prop) (W' : World) : Prop where
  mem : GMem w0 W' d V B st' calls F' dx ox nx hx sx n vo' ((l ++ onL S (2 ^ w * q) (2 ^ w)).take n)
  keeps : Keeps (Qg Fp ox w0.heap.size) W W'
  fp : ∀ x, F' x → Fp x ∨ w0.heap.size ≤ x
  fine : Fine V B (K + costF w) st'
  n : st'.n ≤ st.n + costF w * 2 ^ V.toNat
  ext : Ext st.L st.n st'.L st'.n
def GPost (w0 W : World) (d : Nat) (V B : Int) (st : St) (K : Nat) (calls : Int) (Fp : Nat → Prop) (dx ox nx hx sx : Nat) (n : Nat) (l : List Nat) (S : (Nat → Bool) → Bool) (w q : Nat) (e : Ending) (W' : World) : Prop :=
  ∃ vo' st' F', e = .returned (.tuple #[]) ∧ Hid (GEnd w0 W d V B st K calls Fp dx ox nx hx sx n l S w q vo' st' F' W')
theorem Fine.more {K K' : Nat} (h : Fine V B K st) (hk : K ≤ K') : Fine V B K' st := ⟨h.wf.mono hk, h.bnd⟩
theorem GEnd.stay (h : GMem w0 W d V B st calls Fp dx ox nx hx sx n vo l) {K : Nat} (hf : Fine V B K st) {S : (Nat → Bool) → Bool} {w q : Nat} (hl : (l ++ onL S (2 ^ w * q) (2 ^ w)).take n = l) : GEnd w0 W d V B st K calls Fp dx ox nx hx sx n l S w q vo st Fp W :=
  ⟨by rw [hl]; exact h, Keeps.refl _ _, fun _ hx => .inl hx, hf.more (Nat.le_add_right _ _), Nat.le_add_right _ _, Ext.refl _ _⟩
set_option maxRecDepth 100000
set_option maxHeartbeats 3200000
theorem first_walk (hkV : V = (k : Int)) (hk6 : k ≤ 6) {S : (Nat → Bool) → Bool} (w : Nat) : ∀ (q c : Nat) (W : World) (st : St) (K : Nat) (Fp : Nat → Prop) (vo : Value) (l : List Nat) (f : Int) (E : (Nat → Bool) → Bool), w ≤ k → GMem w0 W d V B st calls Fp dx ox nx hx sx n vo l → Num st f E → FirstI k S E w q → c = 2 ^ w * q → 2 ^ w * q + 2 ^ w ≤ 64 → l.length ≤ n → n ≤ 1000 → Fine V B K st → K + costF w ≤ 29900 → ((st.n + costF w * 2 ^ V.toNat : Nat) : Int) < B →
    Calls Try.prog 69 #[.int .i64 f, .int .i64 ((w : Int) - 1), .int .u64 (c : Int), .pointer (some ⟨ox, 0, none⟩), .pointer (some ⟨nx, 0, none⟩), .pointer (some ⟨hx, 0, none⟩), .pointer (some ⟨sx, 0, none⟩)] W (GPost w0 W d V B st K calls Fp dx ox nx hx sx n l S w q) := by
  obtain ⟨i0, hi0, hz0, hz1, hz2⟩ := info_parts uinfo64
  subst hkV
  induction w with
  | zero =>
    intro q c W st K Fp vo l f E hwk hM hN hI hc hq64 hl hn hF hK room
    obtain ⟨ao, cap, hv, hle, hmx, hnone, hold⟩ := own_form hM.own
    subst hv
    have co := cell_of_heap hM.co 0
    simp only [List.getElem?_toArray, List.getElem?_cons_zero] at co
    have cn := hM.cn
    have HM := Lib.hid hM
    have hneg : ((0 : Nat) : Int) - 1 < 0 := by omega
    by_cases h0 : f = 0
    · subst h0
      have HP : Hid (GPost w0 W d k B st K calls Fp dx ox nx hx sx n l S 0 q (.returned (.tuple #[])) W) := ⟨_, st, Fp, rfl, GEnd.stay hM hF (by
        rw [hI.zero (fun β => by rw [← hN.ev β, ev_low _ _ 0 (by omega)]; rfl), List.append_nil, List.take_of_length_le hl])⟩
      clear hM hN hI hF HM hold hnone
      go_enter Try.func69, Try.ntmps69
      go_wp2_with fail
      first | go_ret | go_end0
      exact HP.out
    by_cases hfull : n ≤ l.length
    · have hfI : (n : Int) ≤ (l.length : Int) := by omega
      have HP : Hid (GPost w0 W d k B st K calls Fp dx ox nx hx sx n l S 0 q (.returned (.tuple #[])) W) := ⟨_, st, Fp, rfl, GEnd.stay hM hF (by
        rw [List.take_append_of_le_length hfull, List.take_of_length_le hl])⟩
      clear hM hN hI hF HM hold hnone
      go_enter Try.func69, Try.ntmps69
      go_wp2_with fail
      first | go_ret | go_end0
      exact HP.out
    · have hfI : ¬ (n : Int) ≤ (l.length : Int) := by omega
      have HE : Hid ((l ++ onL S (2 ^ 0 * q) (2 ^ 0)).take n = l ++ [q]) := by
        show _ = _
        rw [hI.one (const_one (k := k) hF.wf.ok.good hN h0 (fun x hx => hI.free x (Nat.zero_le _) hx)), List.take_of_length_le (by rw [List.length_append]; simp; omega)]
      have HFI := Lib.hid hF
      have HQ : Hid (2 ^ 0 * q = q) := by show _ = _; rw [Nat.pow_zero, Nat.one_mul]
      rw [HQ.out] at hc
      obtain rfl := hc.symm
      have HOWN : Hid (OwnU w0 W (.slice ao l.length cap) l) := hM.own
      have hh0 := h0
      clear hM hN hI hF hold hnone hK room
      go_enter Try.func69, Try.ntmps69
      go_wp2_with (at_builtin; refine wpList_append_fp _ rfl _ _ 31 rfl 34 i0 _ 1 8 Try.underlying31 hi0 hz0 hz1 hz2 rfl (by decide) _ _ _ rfl ((ownsRow_base HOWN.out (Nat.zero_le _)).alloc _) ⟨W.heap.size, 0, none⟩ 1 1 [.int .u64 (q : Int)] rfl rfl (cells_new W _ _) (by intro u hu; simp only [List.mem_cons, List.not_mem_nil, or_false] at hu; subst hu; rfl) (by omega) (by unfold maxLen; omega) (by omega) ?_)
      intro v2 w6 hown2 hgrow hfp
      obtain ⟨ao2, cap2, hv2, _⟩ := own_form hown2
      subst hv2
      have hM1 : GMem w0 (W.alloc (.cells #[.int .u64 (q : Int)] 34)) d k B st calls Fp dx ox nx hx sx n (.slice ao l.length cap) l := HM.out.quiet ((Keeps.refl _ _).alloc _)
      have hcap : ∀ y, (Value.slice ao2 (l.length + 1) cap2).ownBlock = some y → w0.heap.size ≤ y := fun y hy => by
        rcases hfp y hy with e | e
        · exact own_block HOWN.out y e
        · have := HM.out.big; omega
      have hown3 : OwnU w0 w6 (.slice ao2 (l.length + 1) cap2) (l ++ [q]) := by
        have h3 := ownsRow_up hown2 hcap
        show w6.ownsRow _ _ _ _ (l ++ [q]).length (uCells (l ++ [q]))
        rw [uCells_snoc, List.length_append]
        exact h3
      obtain ⟨hM2, hk2⟩ := hM1.put hgrow hown3 (fun y hy => (hfp y hy).imp id (fun e => by simp; omega))
      have hco : w6.cell? ⟨ox, 0, none⟩ = some (.slice ao l.length cap) := by
        have e := ((keeps_grown hgrow).block ox (by have := hM1.lt.2.1; have := hM1.big; omega) (fun e => by have := own_block hM1.own ox e; have := hM1.lt.2.1; omega)).trans hM1.co
        rw [cell_of_heap e]; rfl
      have hlo : ox < w6.heap.size := lt_of_cell hco
      have hfr : w6.frozen? ⟨ox, 0, none⟩ = false := by
        have e := ((keeps_grown hgrow).block ox (by have := hM1.lt.2.1; have := hM1.big; omega) (fun e => by have := own_block hM1.own ox e; have := hM1.lt.2.1; omega)).trans hM1.co
        exact free_of_heap e 0
      have HP : Hid (GPost w0 W d k B st K calls Fp dx ox nx hx sx n l S 0 q (.returned (.tuple #[])) (w6.setCell ⟨ox, 0, none⟩ (.slice ao2 (l.length + 1) cap2))) := ⟨_, st, Fp, rfl, by
        refine ⟨by rw [HE.out]; exact hM2, ?_, fun _ hx => .inl hx, HFI.out.more (Nat.le_add_right _ _), Nat.le_add_right _ _, Ext.refl _ _⟩
        exact (((Keeps.refl (fun _ => False) W).alloc _).mono (fun _ _ x => x.elim)).trans hk2⟩
      clear hM1 hcap hown3 hM2 hk2 hown2 hgrow hfp HFI HE HM HOWN
      go_wp2_with fail
      first | go_ret | go_end0
      exact HP.out
  | succ v ih =>
    intro q c W st K Fp vo l f E hwk hM hN hI hc hq64 hl hn hF hK room
    obtain ⟨ao, cap, hv, hle, hmx, hnone, hold⟩ := own_form hM.own
    subst hv
    have co := cell_of_heap hM.co 0
    simp only [List.getElem?_toArray, List.getElem?_cons_zero] at co
    have cn := hM.cn
    have HM := Lib.hid hM
    have ev1 : ((v + 1 : Nat) : Int) - 1 = (v : Int) := by omega
    rw [ev1]
    have hv0 : (0 : Int) ≤ (v : Int) := by omega
    have hneg : ¬ ((v : Int) < 0) := by omega
    by_cases h0 : f = 0
    · subst h0
      have HP : Hid (GPost w0 W d k B st K calls Fp dx ox nx hx sx n l S (v + 1) q (.returned (.tuple #[])) W) := ⟨_, st, Fp, rfl, GEnd.stay hM hF (by
        rw [hI.zero (fun β => by rw [← hN.ev β, ev_low _ _ 0 (by omega)]; rfl), List.append_nil, List.take_of_length_le hl])⟩
      clear hM hN hI hF HM hold hnone ih
      go_enter Try.func69, Try.ntmps69
      go_wp2_with fail
      first | go_ret | go_end0
      exact HP.out
    by_cases hfull : n ≤ l.length
    · have hfI : (n : Int) ≤ (l.length : Int) := by omega
      have HP : Hid (GPost w0 W d k B st K calls Fp dx ox nx hx sx n l S (v + 1) q (.returned (.tuple #[])) W) := ⟨_, st, Fp, rfl, GEnd.stay hM hF (by
        rw [List.take_append_of_le_length hfull, List.take_of_length_le hl])⟩
      clear hM hN hI hF HM hold hnone ih
      go_enter Try.func69, Try.ntmps69
      go_wp2_with fail
      first | go_ret | go_end0
      exact HP.out
    have hfI : ¬ (n : Int) ≤ (l.length : Int) := by omega
    obtain ⟨P2, hP2⟩ : ∃ p, 2 ^ ((k : Int)).toNat = p := ⟨_, rfl⟩
    obtain ⟨C, hC⟩ : ∃ c, costF v = c := ⟨_, rfl⟩
    have hCs : costF (v + 1) = 2 + 2 * C := by rw [← hC]; rfl
    have hmul : (2 + 2 * C) * P2 = 2 * P2 + 2 * (C * P2) := by rw [Nat.add_mul, Nat.mul_assoc]
    rw [hCs, hP2, hmul] at room
    rw [hCs] at hK
    have hpw : 2 ^ (v + 1) = 2 ^ v + 2 ^ v := by rw [Nat.pow_succ]; omega
    have hqe : 2 ^ (v + 1) * q = 2 ^ v * (2 * q) := by rw [Nat.pow_succ, Nat.mul_assoc]
    have hqo : 2 ^ v * (2 * q + 1) = 2 ^ v * (2 * q) + 2 ^ v := by rw [Nat.mul_add, Nat.mul_one]
    have hq1 : 2 ^ v * (2 * q) + 2 ^ v ≤ 64 := by
      have e := hq64
      rw [hqe, hpw, ← Nat.add_assoc] at e
      exact Nat.le_trans (Nat.le_add_right _ _) e
    have hq2 : 2 ^ v * (2 * q + 1) + 2 ^ v ≤ 64 := by
      have e := hq64
      rw [hqe, hpw, ← Nat.add_assoc, ← hqo] at e
      exact e
    have hc64 : c ≤ 64 := by rw [hc]; exact Nat.le_trans (Nat.le_add_right _ _) hq64
    have hi64 : 2 ^ v ≤ 64 := Nat.le_trans (Nat.le_add_left _ _) hq1
    obtain ⟨c2, hc2⟩ : ∃ c2, c2 = 2 ^ v * (2 * q + 1) := ⟨_, rfl⟩
    have hce : c = 2 ^ v * (2 * q) := by rw [hc, hqe]
    have HHV := Lib.hid (halves_spec hM.bd hM.cd hM.nf.1 (by omega) (by omega) hF (by omega) hN (v := v) (by omega) (by rw [hP2]; omega))
    have IH := Lib.hid ih
    have HI0 : Hid (FirstI k S (fun β => E (putB β (v : Int) false)) v (2 * q)) := by have := hI.half false; rwa [Bool.toNat_false, Nat.add_zero] at this
    have HI1 : Hid (FirstI k S (fun β => E (putB β (v : Int) true)) v (2 * q + 1)) := by have := hI.half true; rwa [Bool.toNat_true] at this
    have ch := hM.ch
    have hwv : IntKind.i64.wrap ((v : Int) - 1) = (v : Int) - 1 := IntWalk.i64_in _ (by omega)
    have HQ : Hid (bits BinOp.or IntKind.u64 (c : Int) (IntKind.u64.wrap ((2 : Int) ^ v)) = (c2 : Int)) := by
      show _ = _
      have hor := u64_or_nat c (2 ^ v) (by omega) (by omega)
      have hpl : c ||| 2 ^ v = c2 := by
        rw [hc, hc2, ← Nat.two_pow_add_eq_or_of_lt (Nat.pow_lt_pow_right (by decide) (Nat.lt_succ_self v))]
        rw [Nat.pow_succ, Nat.mul_add, Nat.mul_one, Nat.mul_assoc]
      rw [hpl] at hor
      have hpb := pow_bit (v := v) (by omega)
      rw [hpb, ← hor]
    have HB := Lib.hid (And.intro hwk (And.intro hq1 (And.intro hl (And.intro hn (And.intro hK (And.intro room (And.intro hq2 (And.intro hce hc2))))))))
    have HFI := Lib.hid hF
    have HGD := Lib.hid hF.wf.ok.good
    have HW0 := Lib.hid hM.big
    have HHQ := Lib.hid (And.intro hP2 (And.intro hC (And.intro hCs hmul)))
    unfold fnHv at ch
    clear hM hN hI hF hold hnone ih hwk hq64 hl hn hK room hpw hqe hqo hP2 hC hCs hmul hq1 hq2 hce hc2 hc hc64 hi64
    go_enter Try.func69, Try.ntmps69
    go_wp2_with fail
    refine HHV.out.mono ?_
    rintro e wA ⟨lo, hi, s1, F1, rfl, HV⟩
    obtain ⟨hwk, hq1, hl, hn, hK, room, hq2, hce, hc2⟩ := HB.out
    obtain ⟨hP2, hC, hCs, hmul⟩ := HHQ.out
    have hn1 := HV.out.n
    rw [hP2] at hn1
    have MA := Lib.hid (HM.out.move HV.out.bd HV.out.mv)
    have HC1 := Lib.hid (IH.out (2 * q) c wA s1 (K + 2) F1 _ l lo _ (by omega) MA.out HV.out.lo HI0.out hce hq1 hl hn HV.out.fine (by rw [hC]; omega) (by rw [hC, hP2]; omega))
    have csA := MA.out.cs
    unfold fnG at csA
    clear HHV HM co cn ch hwk hq1 hl hn hK room hq2 hce hc2 hP2 hC hCs hmul hn1 hle hmx
    go_wp2_with fail
    refine HC1.out.mono ?_
    rintro e wB ⟨v1, s2, F2, rfl, HG⟩
    obtain ⟨hwk, hq1, hl, hn, hK, room, hq2, hce, hc2⟩ := HB.out
    obtain ⟨hP2, hC, hCs, hmul⟩ := HHQ.out
    have hn1 := HV.out.n
    have hn2 := HG.out.n
    rw [hP2] at hn1
    rw [hP2, hC] at hn2
    have hfn := HG.out.fine
    rw [hC] at hfn
    have HC2 : Hid (∀ W', Keeps (fun _ => False) wB W' → Calls Try.prog 69 #[.int .i64 hi, .int .i64 ((v : Int) - 1), .int .u64 (c2 : Int), .pointer (some ⟨ox, 0, none⟩), .pointer (some ⟨nx, 0, none⟩), .pointer (some ⟨hx, 0, none⟩), .pointer (some ⟨sx, 0, none⟩)] W' (GPost w0 W' d k B s2 (K + 2 + C) calls F2 dx ox nx hx sx n ((l ++ onL S (2 ^ v * (2 * q)) (2 ^ v)).take n) S v (2 * q + 1))) := fun W' hk => IH.out (2 * q + 1) c2 W' s2 (K + 2 + C) F2 v1 _ hi _ (by omega) (HG.out.mem.quiet hk) (HV.out.hi.ext HG.out.ext HV.out.fine.wf.ok.good) HI1.out hc2 hq2 (by rw [List.length_take]; omega) hn hfn (by rw [hC]; omega) (by rw [hC, hP2]; omega)
    have csB := HG.out.mem.cs
    unfold fnG at csB
    have HCB := Lib.hid csB
    clear IH MA HC1 csA hwk hq1 hl hn hK room hq2 hce hc2 hP2 hC hCs hmul hn1 hn2 hfn HI0 HI1
    go_upto_region 2 with fail
    refine wp_region_noPanic ?_
    refine wp_region_held_drew (S := (fun w' => w'.cell? ⟨sx, 0, none⟩ = some (.func (.func 69) #[] #[.pointer (some ⟨ox, 0, none⟩), .pointer (some ⟨nx, 0, none⟩), .pointer (some ⟨hx, 0, none⟩), .pointer (some ⟨sx, 0, none⟩)]))) (by kernel_rfl) csB (fun hHeld => ?_)
    refine wpAnyH_take_at (i := 0) (v := ?v0a) rfl (by kernel_rfl) (by kernel_rfl) (by kernel_rfl) (fun _ _ _ h => h) (Or.inl ⟨by rfl, ?y0a⟩) hHeld ?r0a
    case y0a => (intro w hSw; (try dsimp only at hSw); go_simp; first | done | with_reducible rfl)
    (try simp only [Act.put, List.setIfInBounds_toArray, List.set_cons_zero, List.set_cons_succ])
    refine wpAnyH_take_at (i := 1) (v := ?v1a) rfl (by kernel_rfl) (by kernel_rfl) (by kernel_rfl) (fun _ _ _ h => h) (Or.inl ⟨by rfl, ?y1a⟩) hHeld ?r1a
    case y1a => (intro w hSw; (try dsimp only at hSw); go_simp; first | done | with_reducible rfl)
    (try simp only [Act.put, List.setIfInBounds_toArray, List.set_cons_zero, List.set_cons_succ])
    refine wpAnyH_take_at (i := 2) (v := ?v2a) rfl (by kernel_rfl) (by kernel_rfl) (by kernel_rfl) (fun _ _ _ h => h) (Or.inl ⟨by rfl, ?y2a⟩) hHeld ?r2a
    case y2a => (intro w hSw; (try dsimp only at hSw); go_simp; first | done | with_reducible rfl)
    (try simp only [Act.put, List.setIfInBounds_toArray, List.set_cons_zero, List.set_cons_succ])
    refine wpAnyH_take_at (i := 3) (v := ?v3a) rfl (by kernel_rfl) (by kernel_rfl) (by kernel_rfl) (fun _ _ _ h => h) (Or.inl ⟨by rfl, ?y3a⟩) hHeld ?r3a
    case y3a => (intro w hSw; (try dsimp only at hSw); go_simp; first | done | with_reducible rfl)
    (try simp only [Act.put, List.setIfInBounds_toArray, List.set_cons_zero, List.set_cons_succ])
    refine wpAnyH_take_at (i := 4) (v := ?v4a) rfl (by kernel_rfl) (by kernel_rfl) (by kernel_rfl) (fun _ _ _ h => h) (Or.inl ⟨by rfl, ?y4a⟩) hHeld ?r4a
    case y4a => (intro w hSw; (try dsimp only at hSw); go_simp; first | done | with_reducible rfl)
    (try simp only [Act.put, List.setIfInBounds_toArray, List.set_cons_zero, List.set_cons_succ])
    refine wpAnyH_take_at (i := 5) (v := ?v5a) rfl (by kernel_rfl) (by kernel_rfl) (by kernel_rfl) (fun _ _ _ h => h) (Or.inl ⟨by rfl, ?y5a⟩) hHeld ?r5a
    case y5a => (intro w hSw; (try dsimp only at hSw); go_simp; first | done | with_reducible rfl)
    (try simp only [Act.put, List.setIfInBounds_toArray, List.set_cons_zero, List.set_cons_succ])
    refine wpAnyH_take_at (i := 6) (v := ?v6a) rfl (by kernel_rfl) (by kernel_rfl) (by kernel_rfl) (fun _ _ _ h => h) (Or.inl ⟨by rfl, ?y6a⟩) hHeld ?r6a
    case y6a => (intro w hSw; (try dsimp only at hSw); go_simp; first | done | with_reducible rfl)
    (try simp only [Act.put, List.setIfInBounds_toArray, List.set_cons_zero, List.set_cons_succ])
    refine wpAnyH_take_at (i := 7) (v := ?v7a) rfl (by kernel_rfl) (by kernel_rfl) (by kernel_rfl) (fun _ _ _ h => h) (Or.inl ⟨by rfl, ?y7a⟩) hHeld ?r7a
    case y7a => (intro w hSw; (try dsimp only at hSw); go_simp; first | done | with_reducible rfl)
    (try simp only [Act.put, List.setIfInBounds_toArray, List.set_cons_zero, List.set_cons_succ])
    refine wpAnyH_one (i := 8) (by kernel_rfl) rfl (fun KK hK => ?_)
    go_simp
    have hmv : min v 64 = v := Nat.min_eq_left (by have := HB.out.1; omega)
    rw [hmv, HQ.out]
    refine (HC2.out _ ((Keeps.refl (fun _ => False) wB).drew)).mono ?_
    rintro e wC ⟨v2, s3, F3, rfl, HE⟩
    go_simp
    refine hK.out _ _ ?s8a (fun hHeld => ?_)
    case s8a => exact HE.out.mem.cs
    clear hK KK
    (try simp only [Act.put, List.setIfInBounds_toArray, List.set_cons_zero, List.set_cons_succ])
    refine wpAnyH_done (by kernel_rfl) ?_ _
    refine NoPanic.normal ?_
    have HP : Hid (GPost w0 W d k B st K calls Fp dx ox nx hx sx n l S (v + 1) q (.returned (.tuple #[])) wC) := ⟨v2, s3, F3, rfl, by
      obtain ⟨hP2, hC, hCs, hmul⟩ := HHQ.out
      have b1 := HV.out.n
      have b2 := HG.out.n
      have b3 := HE.out.n
      rw [hP2] at b1
      rw [hP2, hC] at b2 b3
      have hbig := HG.out.mem.big
      have q1 : Keeps (Qg Fp ox w0.heap.size) W wA := HV.out.mv.keeps.mono (fun _ _ h => .inl h)
      have f1 : ∀ x, F1 x → Fp x ∨ w0.heap.size ≤ x := fun x hx => (HV.out.mv.fp x hx).imp id (fun h => Nat.le_trans HW0.out h)
      have q2 : Keeps (Qg Fp ox w0.heap.size) wA wB := HG.out.keeps.mono (fun y _ h => h.elim (fun h => (f1 y h).imp id .inr) .inr)
      have f2 : ∀ x, F2 x → Fp x ∨ w0.heap.size ≤ x := fun x hx => (HG.out.fp x hx).elim (f1 x) .inr
      have q3 : Keeps (Qg Fp ox w0.heap.size) wB wC := ((Keeps.refl (fun _ => False) wB).drew.mono (fun _ _ x => x.elim)).trans (HE.out.keeps.mono (fun y _ h => h.elim (fun h => (f2 y h).imp id .inr) .inr))
      refine ⟨by rw [← first_two]; exact HE.out.mem, (q1.trans q2).trans q3, fun x hx => (HE.out.fp x hx).elim (f2 x) .inr, HE.out.fine.more (by rw [hCs, hC]; omega), by rw [hCs, hP2, hmul]; omega, (HV.out.ext.trans HG.out.ext).trans HE.out.ext⟩⟩
    clear hHeld csB HCB HC2 HE HG HV HHQ HB HFI HGD HW0
    go_wp2_with fail
    first | go_ret | go_end0
    exact HP.out
end
end Go.Proofs.Ytfakjhcpaiaekaa
/-
  The first numbers at which a diagram is true: all, of the program's own row.
-/
set_option linter.unusedVariables false
set_option linter.unusedSimpArgs false
set_option linter.unnecessarySimpa false
namespace Go.Proofs.Ytfakjhcpaiaekaa
open Go.ChangeShapes Go.WideShapes Go.ChangeAt Go.RowKit Go.Deep NodePlain SatPlain
/-- What all leaves. -/
structure AllR (W : World) (d : Nat) (V B : Int) (st : St) (K : Nat) (calls : Int) (Fp : Nat → Prop) (k n : Nat) (E : (Nat → Bool) → Bool) (vo : Value) (st' : St) (F' : Nat → Prop) (W' : World) : Prop where
  bd : Bd W' d V B st' calls F'
  mv : Mv W W' Fp F'
  fine : Fine V B (K + costF k) st'
  nn : st'.n ≤ st.n + costF k * 2 ^ V.toNat
  ext : Ext st.L st.n st'.L st'.n
  row : OwnU W W' vo ((onL E 0 (2 ^ k)).take n)
  own : ∀ y, vo.ownBlock = some y → ¬ F' y
section
variable {W : World} {d : Nat} {B : Int} {st : St} {calls : Int} {Fp : Nat → Prop} {K k : Nat}
set_option maxRecDepth 100000
set_option maxHeartbeats 3200000
theorem all_spec (h : Bd W d (k : Int) B st calls Fp) (hk6 : k ≤ 6) (hf : Fine (k : Int) B K st) (hK : K + costF k ≤ 29900) {f : Int} {E : (Nat → Bool) → Bool} (hN : Num st f E) {n : Nat} (hn : n ≤ 1000) (room : ((st.n + costF k * 2 ^ ((k : Int)).toNat : Nat) : Int) < B) :
    Calls Try.prog 49 #[.pointer (some ⟨d, 0, none⟩), .int .i64 f, .int .i64 n] W fun e W' => ∃ vo st' F', e = .returned vo ∧ Hid (AllR W d k B st K calls Fp k n E vo st' F' W') := by
  have hbx : ∀ w3, w3 = ((W.alloc (.cells #[.pointer (some ⟨d, 0, none⟩)] 25)).alloc (.cells #[.int .i64 n] 3)).alloc (.cells #[.slice none 0 0] 31) → Keeps (fun _ => False) W w3 ∧ w3.heap.size = W.heap.size + 3 ∧ w3.cell? ⟨W.heap.size, 0, none⟩ = some (.pointer (some ⟨d, 0, none⟩)) ∧ w3.cell? ⟨W.heap.size + 1, 0, none⟩ = some (.int .i64 n) ∧ w3.heap[W.heap.size + 2]? = some (.cells #[.slice none 0 0] 31 (0, 0)) := by
    rintro w3 rfl
    have h1 := (MapKept.heap_alloc W (.cells #[.pointer (some ⟨d, 0, none⟩)] 25)).1
    generalize hA : W.alloc (.cells #[.pointer (some ⟨d, 0, none⟩)] 25) = wA at h1 ⊢
    have s1 : wA.heap.size = W.heap.size + 1 := by rw [← hA]; simp
    have kA : Keeps (fun _ => False) W wA := by rw [← hA]; exact (Keeps.refl _ _).alloc _
    have h2 := (MapKept.heap_alloc wA (.cells #[.int .i64 n] 3)).1
    rw [s1] at h2
    generalize hB : wA.alloc (.cells #[.int .i64 n] 3) = wB at h2 ⊢
    have s2 : wB.heap.size = W.heap.size + 2 := by rw [← hB]; simp [s1]
    have kB : Keeps (fun _ => False) wA wB := by rw [← hB]; exact (Keeps.refl _ _).alloc _
    have h3 := (MapKept.heap_alloc wB (.cells #[.slice none 0 0] 31)).1
    rw [s2] at h3
    have kC : Keeps (fun _ => False) wB (wB.alloc (.cells #[.slice none 0 0] 31)) := (Keeps.refl _ _).alloc _
    refine ⟨(kA.trans kB).trans kC, by simp [s2], ?_, ?_, h3⟩
    · rw [cell_of_heap ((kC.block _ (by omega) (fun x => x)).trans ((kB.block _ (lt_of_heap h1) (fun x => x)).trans h1))]; rfl
    · rw [cell_of_heap ((kC.block _ (lt_of_heap h2) (fun x => x)).trans h2)]; rfl
  have HBX := Lib.hid hbx
  have HH := Lib.hid h
  have HF := Lib.hid hf
  have HN := Lib.hid hN
  have HB := Lib.hid (And.intro hK (And.intro room hn))
  clear hbx h hf hN hK room hn
  go_enter Try.func49, Try.ntmps49
  go_upto_region 1 with fail
  obtain ⟨hk, hs, e0, e1, e2⟩ := HBX.out _ rfl
  have HK3 := Lib.hid hk
  have HS3 := Lib.hid hs
  have HE := Lib.hid (And.intro e0 (And.intro e1 e2))
  clear HBX hk e0 e1 e2
  generalize ((W.alloc (.cells #[.pointer (some ⟨d, 0, none⟩)] 25)).alloc (.cells #[.int .i64 n] 3)).alloc (.cells #[.slice none 0 0] 31) = w3 at *
  -- the halves
  have ha4 := (MapKept.heap_alloc w3 (.cells #[.nilFunc] 105)).1
  have c4 := cell_of_heap ha4 0
  have f4 := free_of_heap ha4 0
  have l4 := lt_of_heap ha4
  simp only [List.getElem?_toArray, List.getElem?_cons_zero] at c4
  have hst : (store ⟨w3.heap.size, 0, none⟩ (fnHv W.heap.size)).run Try.prog (w3.alloc (.cells #[.nilFunc] 105)) = .ok () ((w3.alloc (.cells #[.nilFunc] 105)).setCell ⟨w3.heap.size, 0, none⟩ (fnHv W.heap.size)) := by
    unfold fnHv
    rw [run_store _ _ _ _ _ rfl]
    simp only [stored, c4, f4]
    rfl
  unfold fnHv at hst
  rw [hs] at hst
  have h5 := (MapKept.heap_alloc w3 (.cells #[fnHv W.heap.size] 105)).1
  have k5 : Keeps (fun _ => False) w3 (w3.alloc (.cells #[fnHv W.heap.size] 105)) := (Keeps.refl _ _).alloc _
  have s5 : (w3.alloc (.cells #[fnHv W.heap.size] 105)).heap.size = w3.heap.size + 1 := by simp
  have e5 := cell_of_heap h5 0
  simp only [List.getElem?_toArray, List.getElem?_cons_zero] at e5
  rw [hs] at e5
  have HE5 := Lib.hid e5
  have HK5 := Lib.hid k5
  have HS5 := Lib.hid s5
  clear ha4 h5 k5 e5 s5
  go_upto_region 2 with fail
  clear hst f4 c4 l4
  unfold fnHv at HE5 HK5 HS5
  generalize w3.alloc (.cells #[.func (.func 67) #[] #[.pointer (some ⟨W.heap.size, 0, none⟩)]] 105) = w5 at *
  have hs5 : w5.heap.size = W.heap.size + 4 := by rw [HS5.out, hs]
  clear hs
  obtain ⟨bo, hbo⟩ : ∃ x, W.heap.size + 1 + 1 = x := ⟨_, rfl⟩
  obtain ⟨bn, hbn⟩ : ∃ x, W.heap.size + 1 = x := ⟨_, rfl⟩
  obtain ⟨bh, hbh⟩ : ∃ x, W.heap.size + 3 = x := ⟨_, rfl⟩
  obtain ⟨bs, hbs⟩ : ∃ x, W.heap.size + 4 = x := ⟨_, rfl⟩
  obtain ⟨bd, hbd⟩ : ∃ x, W.heap.size = x := ⟨_, rfl⟩
  -- the telling closure
  have ha6 := (MapKept.heap_alloc w5 (.cells #[.nilFunc] 106)).1
  have c6 := cell_of_heap ha6 0
  have f6 := free_of_heap ha6 0
  have l6 := lt_of_heap ha6
  simp only [List.getElem?_toArray, List.getElem?_cons_zero] at c6
  have hst : (store ⟨w5.heap.size, 0, none⟩ (fnG bo bn bh bs)).run Try.prog (w5.alloc (.cells #[.nilFunc] 106)) = .ok () ((w5.alloc (.cells #[.nilFunc] 106)).setCell ⟨w5.heap.size, 0, none⟩ (fnG bo bn bh bs)) := by
    unfold fnG
    rw [run_store _ _ _ _ _ rfl]
    simp only [stored, c6, f6]
    rfl
  unfold fnG at hst
  have h7 := (MapKept.heap_alloc w5 (.cells #[fnG bo bn bh bs] 106)).1
  have k7 : Keeps (fun _ => False) w5 (w5.alloc (.cells #[fnG bo bn bh bs] 106)) := (Keeps.refl _ _).alloc _
  have s7 : (w5.alloc (.cells #[fnG bo bn bh bs] 106)).heap.size = w5.heap.size + 1 := by simp
  have e7 := cell_of_heap h7 0
  simp only [List.getElem?_toArray, List.getElem?_cons_zero] at e7
  rw [hs5, hbs] at e7 hst
  have HE7 := Lib.hid e7
  have HK7 := Lib.hid k7
  have HS7 : Hid ((w5.alloc (.cells #[fnG bo bn bh bs] 106)).heap.size = W.heap.size + 5) := by show _ = _; rw [s7, hs5]
  clear ha6 h7 k7 e7 s7
  rw [hbs] at hs5
  rw [hbo, hbn, hbh]
  go_upto_region 4 with fail
  clear hst f6 c6 l6 hs5
  unfold fnG at HE7 HK7 HS7
  generalize w5.alloc (.cells #[.func (.func 69) #[] #[.pointer (some ⟨bo, 0, none⟩), .pointer (some ⟨bn, 0, none⟩), .pointer (some ⟨bh, 0, none⟩), .pointer (some ⟨bs, 0, none⟩)]] 106) = w7 at *
  have k57 := HK5.out.trans HK7.out
  have kW7 : Keeps (fun _ => False) W w7 := HK3.out.trans k57
  have hs7 := HS7.out
  have hFl : ∀ x, Fp x → x < W.heap.size := HH.out.lt
  obtain ⟨e0, e1, e2⟩ := HE.out
  have M7 : GMem w7 w7 d k B st calls Fp W.heap.size bo bn bh bs n (.slice none 0 0) [] := by
    refine ⟨HH.out.quiet kW7, ?_, (k57.cell (p := ⟨W.heap.size, 0, none⟩) (lt_of_cell e0) (fun x => x)).trans e0, ?_, ?_, HE7.out, World.ownsRow_nil _ _ _ _, fun y hy => (by cases hy), ⟨by omega, by omega, by omega, by omega, by omega⟩, ⟨by omega, by omega, by omega, by omega⟩, ⟨fun h => by have := hFl _ h; omega, fun h => by have := hFl _ h; omega, fun h => by have := hFl _ h; omega, fun h => by have := hFl _ h; omega, fun h => by have := hFl _ h; omega⟩, Nat.le_refl _⟩
    · rw [← hbo]
      exact (k57.block _ (lt_of_heap e2) (fun x => x)).trans e2
    · rw [← hbn]
      exact (k57.cell (p := ⟨W.heap.size + 1, 0, none⟩) (lt_of_cell e1) (fun x => x)).trans e1
    · rw [← hbh]
      exact (HK7.out.cell (p := ⟨W.heap.size + 3, 0, none⟩) (lt_of_cell HE5.out) (fun x => x)).trans HE5.out
  have HC : Hid (Calls Try.prog 69 #[.int .i64 f, .int .i64 ((k : Int) - 1), .int .u64 ((0 : Nat) : Int), .pointer (some ⟨bo, 0, none⟩), .pointer (some ⟨bn, 0, none⟩), .pointer (some ⟨bh, 0, none⟩), .pointer (some ⟨bs, 0, none⟩)] w7.drew (GPost w7 w7.drew d k B st K calls Fp W.heap.size bo bn bh bs n [] E k 0)) :=
    first_walk rfl hk6 k 0 0 w7.drew st K Fp _ [] f E (Nat.le_refl _) (M7.quiet ((Keeps.refl _ _).drew)) HN.out FirstI.start (by rw [Nat.mul_zero]) (by rw [Nat.mul_zero, Nat.zero_add]; exact Nat.le_trans (Nat.pow_le_pow_right (by omega) hk6) (by decide)) (Nat.zero_le _) HB.out.2.2 HF.out HB.out.1 HB.out.2.1
  have HVR : Hid (Calls Try.prog 50 #[.pointer (some ⟨d, 0, none⟩)] w7.drew fun e w' => e = .returned (.int .i64 (k : Int)) ∧ w7.drew = w') := bvars_spec (HH.out.quiet (kW7.trans ((Keeps.refl _ _).drew)))
  have H4 : (fun w' => w'.cell? ⟨bs, 0, none⟩ = some (.func (.func 69) #[] #[.pointer (some ⟨bo, 0, none⟩), .pointer (some ⟨bn, 0, none⟩), .pointer (some ⟨bh, 0, none⟩), .pointer (some ⟨bs, 0, none⟩)]) ∧ w'.cell? ⟨W.heap.size, 0, none⟩ = some (.pointer (some ⟨d, 0, none⟩))) w7.drew := ⟨HE7.out, M7.cd⟩
  have hwk : IntKind.i64.wrap ((k : Int) - 1) = (k : Int) - 1 := IntWalk.i64_in _ (by omega)
  have HK7W := Lib.hid kW7
  have HBS := Lib.hid (And.intro hbo (And.intro hbn (And.intro hbh hbs)))
  clear M7 kW7 k57 hs7 hFl e0 e1 e2 HE HE5 HE7 HK5 HK7 HK3 HS3 HS5 hbo hbn hbh hbs hbd
  refine wp_region_noPanic ?_
  refine wp_region_held_drew (S := (fun w' => w'.cell? ⟨bs, 0, none⟩ = some (.func (.func 69) #[] #[.pointer (some ⟨bo, 0, none⟩), .pointer (some ⟨bn, 0, none⟩), .pointer (some ⟨bh, 0, none⟩), .pointer (some ⟨bs, 0, none⟩)]) ∧ w'.cell? ⟨W.heap.size, 0, none⟩ = some (.pointer (some ⟨d, 0, none⟩)))) (by kernel_rfl) H4 (fun hHeld => ?_)
  refine wpAnyH_take_at (i := 0) (v := ?v0a) rfl (by kernel_rfl) (by kernel_rfl) (by kernel_rfl) (fun _ _ _ h => h) (Or.inl ⟨by rfl, ?y0a⟩) hHeld ?r0a
  case y0a => (intro w hSw; (try dsimp only at hSw); go_simp; first | done | with_reducible rfl)
  (try simp only [Act.put, List.setIfInBounds_toArray, List.set_cons_zero, List.set_cons_succ])
  refine wpAnyH_take_at (i := 1) (v := ?v1a) rfl (by kernel_rfl) (by kernel_rfl) (by kernel_rfl) (fun _ _ _ h => h) (Or.inl ⟨by rfl, ?y1a⟩) hHeld ?r1a
  case y1a => (intro w hSw; (try dsimp only at hSw); go_simp; first | done | with_reducible rfl)
  (try simp only [Act.put, List.setIfInBounds_toArray, List.set_cons_zero, List.set_cons_succ])
  refine wpAnyH_take_at (i := 2) (v := ?v2a) rfl (by kernel_rfl) (by kernel_rfl) (by kernel_rfl) (fun _ _ _ h => h) (Or.inl ⟨by rfl, ?y2a⟩) hHeld ?r2a
  case y2a => (intro w hSw; (try dsimp only at hSw); go_simp; first | done | with_reducible rfl)
  (try simp only [Act.put, List.setIfInBounds_toArray, List.set_cons_zero, List.set_cons_succ])
  refine wpAnyH_one (i := 3) (by kernel_rfl) rfl (fun KK hK => ?_)
  go_simp
  refine HVR.out.mono ?_
  rintro e w' ⟨rfl, rfl⟩
  go_simp
  refine hK.out _ _ ?s3a (fun hHeld => ?_)
  case s3a => exact H4
  clear hK KK
  (try simp only [Act.put, List.setIfInBounds_toArray, List.set_cons_zero, List.set_cons_succ])
  refine wpAnyH_take_at (i := 4) (v := ?v4a) rfl (by kernel_rfl) (by kernel_rfl) (by kernel_rfl) (fun _ _ _ h => h) (Or.inl ⟨by rfl, ?y4a⟩) hHeld ?r4a
  case y4a => (intro w hSw; (try dsimp only at hSw); go_simp; first | done | with_reducible rfl)
  (try simp only [Act.put, List.setIfInBounds_toArray, List.set_cons_zero, List.set_cons_succ])
  refine wpAnyH_one (i := 5) (by kernel_rfl) rfl (fun KK hK => ?_)
  go_simp
  refine HC.out.mono ?_
  rintro e w8 ⟨vo, s1, F1, rfl, HG⟩
  go_simp
  refine hK.out _ _ ?s5a (fun hHeld => ?_)
  case s5a => exact ⟨HG.out.mem.cs, HG.out.mem.cd⟩
  clear hK KK
  (try simp only [Act.put, List.setIfInBounds_toArray, List.set_cons_zero, List.set_cons_succ])
  refine wpAnyH_done (by kernel_rfl) ?_ _
  refine NoPanic.normal ?_
  have hco := HG.out.mem.co
  obtain ⟨ao, cap, hv, hle, _⟩ := own_form HG.out.mem.own
  subst hv
  have hbs := HBS.out
  have hs7 := HS7.out
  have hP : ∀ w9, Keeps (fun y => y = bo) w8 w9 → AllR W d k B st K calls Fp k n E (.slice ao ((onL E 0 (2 ^ k)).take n).length cap) s1 F1 w9 := fun w9 hk9 => by
    have hm := HG.out.mem
    have hor := hm.own
    rw [List.nil_append, Nat.mul_zero] at hor
    have hob := hm.ob
    rw [List.nil_append, Nat.mul_zero] at hob
    have hkeep : Keeps Fp W w9 := by
      have q1 := ((HK7W.out.mono (fun _ _ x => x.elim) : Keeps Fp W w7)).trans_new ((((Keeps.refl (fun _ => False) w7).drew.mono (fun _ _ x => x.elim)).trans HG.out.keeps).trans (hk9.mono (fun y _ e => (.inr (.inl e) : Qg Fp bo w7.heap.size y)))) (fun i hi hq => by
        rcases hq with h | h | h
        · exact h
        · omega
        · omega)
      exact q1
    refine ⟨hm.bd.keeps hk9 (fun x hx e => hm.nf.2.1 (e ▸ hx)), ⟨hkeep, fun x hx => (HG.out.fp x hx).imp id (fun h => by omega)⟩, HG.out.fine, HG.out.n, HG.out.ext, ownsRow_base (ownsRow_keeps' hor hk9 (fun y hy e => by have := own_block hor y hy; have := hm.lt.2.1; omega)) (by omega), hob⟩
  have HPP := Lib.hid hP
  have co := cell_of_heap hco 0
  have fo := free_of_heap hco 0
  have lo := lt_of_heap hco
  simp only [List.getElem?_toArray, List.getElem?_cons_zero] at co
  rw [List.nil_append, Nat.mul_zero] at co
  obtain ⟨m, hm⟩ : ∃ m, ((onL E 0 (2 ^ k)).take n).length = m := ⟨_, rfl⟩
  rw [hm] at HPP co
  have hhp : (w8.setCell ⟨bo, 0, none⟩ (.slice ao m cap)).heap[bo]? = some (.cells #[.slice ao m cap] 31 (0, 0)) := by rw [heap_set hco 0 _]; rfl
  have hz := cell_of_heap hhp 0
  simp only [List.getElem?_toArray, List.getElem?_cons_zero] at hz
  have hk9 : Keeps (fun y => y = bo) w8 (w8.setCell ⟨bo, 0, none⟩ (.slice ao m cap)) := (Keeps.refl (fun y => y = bo) w8).setCell (fun _ => rfl) _
  have HK9 := Lib.hid hk9
  have HZ := Lib.hid hz
  clear hP hm hco hhp hz hk9 HG hHeld H4 HC HVR HBS HS7 hs7 hbs HH HF HN HB hle HK7W
  go_wp2_with fail
  generalize w8.setCell ⟨bo, 0, none⟩ (.slice ao m cap) = w9 at *
  have hz := HZ.out
  refine bodyPost_ret (v := .slice ao m cap) (by simp [results, Try.results49, go_sem, *]) rfl ⟨_, s1, F1, rfl, HPP.out w9 HK9.out⟩
end
end Go.Proofs.Ytfakjhcpaiaekaa
/-
  The first so many numbers at which a diagram is true, and the least: the program's.
-/
set_option linter.unusedVariables false
set_option linter.unusedSimpArgs false
set_option linter.unnecessarySimpa false
namespace Go.Proofs.Ytfakjhcpaiaekaa
open Go.ChangeShapes Go.WideShapes Go.ChangeAt Go.RowKit Go.Deep NodePlain SatPlain
section
variable {W : World} {d : Nat} {B : Int} {st : St} {calls : Int} {Fp : Nat → Prop} {K k : Nat}
set_option maxRecDepth 100000
set_option maxHeartbeats 3200000
theorem first_no {V : Int} (h : Bd W d V B st calls Fp) (hn : st.n ≤ 1000000000) (f : Int) (hf : f ≤ 9223372036854775807) (h0 : (decide (f = 0) || !isN st.n f) = true) (n : Int) :
    Calls Try.prog 13 #[.pointer (some ⟨d, 0, none⟩), .int .i64 f, .int .i64 n] W fun e W' => e = .returned (.slice none 0 0) ∧ W = W' := by
  have HN0 := Lib.hid (never_spec h hn f hf)
  rw [h0] at HN0
  clear h
  go_enter Try.func13, Try.ntmps13
  go_wp2_with fail
  refine HN0.out.mono ?_
  rintro e w' ⟨rfl, rfl⟩
  go_wp2_with fail
  go_ret
  exact ⟨rfl, rfl⟩
theorem first_spec (h : Bd W d (k : Int) B st calls Fp) (hk6 : k ≤ 6) (hf : Fine (k : Int) B K st) (hK : K + costF k ≤ 29900) {f : Int} {E : (Nat → Bool) → Bool} (hN : Num st f E) (h0 : f ≠ 0) (n : Int) (room : ((st.n + costF k * 2 ^ ((k : Int)).toNat : Nat) : Int) < B) :
    Calls Try.prog 13 #[.pointer (some ⟨d, 0, none⟩), .int .i64 f, .int .i64 n] W fun e W' => ∃ vo st' F', e = .returned vo ∧ Hid (AllR W d k B st K calls Fp k (max 0 (min n 1000)).toNat E vo st' F' W') := by
  have hn8 : st.n ≤ 8000000 := by have := hf.wf.n; omega
  have hfI := isN_iff.1 hN.is
  have HN0 := Lib.hid (never_spec h (by omega) f (by omega))
  have hnv : (decide (f = 0) || !isN st.n f) = false := by rw [hN.is, decide_eq_false h0]; rfl
  rw [hnv] at HN0
  obtain ⟨m, hm⟩ : ∃ m, (max 0 (min n 1000)).toNat = m := ⟨_, rfl⟩
  have hm1 : m ≤ 1000 := by omega
  obtain ⟨x, hx⟩ : ∃ x : Int, (m : Int) = x := ⟨_, rfl⟩
  rw [hm]
  have HA : Hid (Calls Try.prog 49 #[.pointer (some ⟨d, 0, none⟩), .int .i64 f, .int .i64 x] W fun e W' => ∃ vo st' F', e = .returned vo ∧ Hid (AllR W d k B st K calls Fp k m E vo st' F' W')) := hx ▸ all_spec h hk6 hf hK hN hm1 room
  clear h hf hK hN room hnv
  go_enter Try.func13, Try.ntmps13
  go_wp2_with fail
  refine HN0.out.mono ?_
  rintro e w' ⟨rfl, rfl⟩
  rcases Int.le_total n 0 with h1 | h1
  · obtain rfl : x = 0 := by omega
    have h2 : ¬ (1000 < n) := by omega
    have h3 : ¬ (0 < n) := by omega
    clear hx hm hm1
    go_wp2_with fail
    refine HA.out.mono ?_
    rintro e w' ⟨vo, s1, F1, rfl, HR⟩
    go_wp2_with fail
    go_ret
    exact ⟨vo, s1, F1, rfl, HR⟩
  · rcases Int.lt_or_le 1000 n with h2 | h2
    · obtain rfl : x = 1000 := by omega
      clear hx hm hm1
      go_wp2_with fail
      refine HA.out.mono ?_
      rintro e w' ⟨vo, s1, F1, rfl, HR⟩
      go_wp2_with fail
      go_ret
      exact ⟨vo, s1, F1, rfl, HR⟩
    · obtain rfl : x = n := by omega
      have h3 : ¬ (1000 < x) := by omega
      clear hx hm hm1
      rcases Int.lt_or_eq_of_le h1 with h4 | h4
      · go_wp2_with fail
        refine HA.out.mono ?_
        rintro e w' ⟨vo, s1, F1, rfl, HR⟩
        go_wp2_with fail
        go_ret
        exact ⟨vo, s1, F1, rfl, HR⟩
      · subst h4
        go_wp2_with fail
        refine HA.out.mono ?_
        rintro e w' ⟨vo, s1, F1, rfl, HR⟩
        go_wp2_with fail
        go_ret
        exact ⟨vo, s1, F1, rfl, HR⟩
theorem least_no {V : Int} (h : Bd W d V B st calls Fp) (hn : st.n ≤ 1000000000) (f : Int) (hf : f ≤ 9223372036854775807) (h0 : (decide (f = 0) || !isN st.n f) = true) :
    Calls Try.prog 16 #[.pointer (some ⟨d, 0, none⟩), .int .i64 f] W fun e W' => e = .returned (.tuple #[.int .u64 0, .bool false]) ∧ W = W' := by
  have HN0 := Lib.hid (first_no h hn f hf h0 1)
  clear h
  go_enter Try.func16, Try.ntmps16
  go_wp2_with fail
  refine HN0.out.mono ?_
  rintro e w' ⟨rfl, rfl⟩
  go_wp2_with fail
  go_ret2
  exact ⟨rfl, rfl⟩
/-- What Least leaves. -/
structure LeastR (W : World) (d : Nat) (V B : Int) (st : St) (K : Nat) (calls : Int) (Fp : Nat → Prop) (k : Nat) (E : (Nat → Bool) → Bool) (x : Nat) (st' : St) (F' : Nat → Prop) (W' : World) : Prop where
  bd : Bd W' d V B st' calls F'
  mv : Mv W W' Fp F'
  fine : Fine V B (K + costF k) st'
  nn : st'.n ≤ st.n + costF k * 2 ^ V.toNat
  ext : Ext st.L st.n st'.L st'.n
  head : (onL E 0 (2 ^ k)).head? = some x
theorem least_spec (h : Bd W d (k : Int) B st calls Fp) (hk6 : k ≤ 6) (hf : Fine (k : Int) B K st) (hK : K + costF k ≤ 29900) {f : Int} {E : (Nat → Bool) → Bool} (hN : Num st f E) (h0 : f ≠ 0) (room : ((st.n + costF k * 2 ^ ((k : Int)).toNat : Nat) : Int) < B) :
    Calls Try.prog 16 #[.pointer (some ⟨d, 0, none⟩), .int .i64 f] W fun e W' => ∃ x st' F', e = .returned (.tuple #[.int .u64 (x : Nat), .bool true]) ∧ Hid (LeastR W d k B st K calls Fp k E x st' F' W') := by
  have HF := Lib.hid (first_spec h hk6 hf hK hN h0 1 room)
  have e1 : (max 0 (min (1 : Int) 1000)).toNat = 1 := rfl
  rw [e1] at HF
  obtain ⟨x, l, hl⟩ : ∃ x l, onL E 0 (2 ^ k) = x :: l := by
    obtain ⟨b, hb, e⟩ := way_some hf.wf.ok.good hN.is h0
    have hm : b ∈ onL E 0 (2 ^ k) := by
      unfold onL
      rw [List.mem_filter, List.mem_range'_1]
      exact ⟨⟨by omega, by omega⟩, by rw [← hN.ev]; exact e⟩
    cases hh : onL E 0 (2 ^ k) with
    | nil => rw [hh] at hm; cases hm
    | cons x l => exact ⟨x, l, rfl⟩
  have HL := Lib.hid hl
  clear h hf hK hN h0 room e1 hl
  go_enter Try.func16, Try.ntmps16
  go_wp2_with fail
  refine HF.out.mono ?_
  rintro e w' ⟨vo, s1, F1, rfl, HR⟩
  have hr := HR.out.row.reads
  rw [HL.out] at hr
  obtain ⟨ao, cap, hv, hle, hc⟩ := hr
  simp only [List.take_succ_cons, List.take_zero, List.length_cons, List.length_nil] at hv hle hc
  subst hv
  obtain ⟨g, off, rfl, hg, hx⟩ := hc (by omega)
  have c0 := hx 0 x rfl
  rw [Nat.add_zero] at c0
  have hle2 : 0 < cap := by omega
  have HP : Hid (LeastR W d k B st K calls Fp k E x s1 F1 w') := ⟨HR.out.bd, HR.out.mv, HR.out.fine, HR.out.nn, HR.out.ext, by rw [HL.out]; rfl⟩
  clear HF HR hx hc
  go_wp2_with fail
  go_ret2
  exact ⟨x, s1, F1, rfl, HP⟩
end
end Go.Proofs.Ytfakjhcpaiaekaa
