/-
  What the document's looks come to, in plain steps.
-/
import Derived.Test.YtaabmkebbnkonaaDoorRefMem
import Derived.Test.YtaabmkebbnkonaaDoorMC
import Derived.Test.YtaabmkebbnkonaaDoorMA
set_option linter.unusedVariables false
set_option linter.unusedSimpArgs false
namespace Go.Proofs.YtaabmkebbnkonaaDoor
open Go.ChangeShapes Go.WideShapes Go.ChangeAt Go.RowKit Go.Deep SetPlain
theorem mulK_lt {x v P K : Nat} (hx : x < P) (hv : v < K) : x * K + v < P * K := by
  have h1 := Nat.mul_le_mul_right K hx
  rw [Nat.succ_mul] at h1
  omega
def totIn (P N : Nat) (In : Nat → Nat → Bool) : Nat := sumTo (fun a => cnt (In a) P) N
theorem totIn_le (P N : Nat) (In : Nat → Nat → Bool) : totIn P N In ≤ P * N := sumTo_le (fun a => cnt_le _ _) N
theorem totIn_set {P N : Nat} {In : Nat → Nat → Bool} {i c : Nat} (hi : i < N) (hc : c < P) (h : In i c = false) : totIn P N (setIn In i c) = totIn P N In + 1 := by
  have hb : addB N P In (i : Int) (c : Int) = true := addB_iff.2 ⟨i, c, rfl, rfl, hi, hc, h⟩
  have h1 := addTot_sum (R := N) (C := P) (In := In) (i := (i : Int)) (c := (c : Int)) (tot := totIn P N In) rfl
  unfold addTot addIn at h1
  rw [if_pos hb, if_pos hb] at h1
  have h2 : setIn In i c = updIn In i c := by
    funext a x
    unfold setIn updIn
    by_cases e : a = i
    · subst e; simp [upd]
    · simp [e]
  rw [h2]
  exact h1.symm
/-- All that is in follows, and lies where it may. -/
def SndIn (P K : Nat) (rs : List Rl) (In : Nat → Nat → Bool) : Prop := ∀ i c, In i c = true → i < P * K ∧ c < P ∧ Der K rs i c
section
variable {P K : Nat} {r : Rl} {rs : List Rl} {In : Nat → Nat → Bool}
theorem prem_der (hR : rightB P K r = true) (hr : r ∈ rs) (h : SndIn P K rs In) {n : Nat} (hn : n < P) (hp : prem P K r In n = true) : Der K rs r.head.toNat n := by
  obtain ⟨_, hcase⟩ := right_iff hR
  unfold prem at hp
  rcases hcase with ⟨k1, hw0, hw1⟩ | ⟨k2, _⟩ | ⟨k3, _⟩ | ⟨k4, _⟩
  · rw [if_pos k1] at hp
    have e : (n : Int) = r.who := of_decide_eq_true hp
    have := Der.mem (K := K) r hr k1
    rw [show r.who.toNat = n by omega] at this
    exact this
  · rw [if_neg (by omega), if_pos k2] at hp
    exact .incl r n hr k2 (h _ _ hp).2.2
  · rw [if_neg (by omega), if_neg (by omega), if_pos k3] at hp
    obtain ⟨x, hx, h1, h2⟩ := (anyIn_iff _ _ _).1 hp
    exact .link r x n hr k3 (h _ _ h1).2.2 (h _ _ h2).2.2
  · rw [if_neg (by omega), if_neg (by omega), if_neg (by omega), Bool.and_eq_true] at hp
    exact .both r n hr k4 (h _ _ hp.1).2.2 (h _ _ hp.2).2.2
theorem head_lt (hR : rightB P K r = true) : r.head.toNat < P * K := by have := (right_iff hR).1; omega
theorem onceTo_snd (hR : rightB P K r = true) (hr : r ∈ rs) (h : SndIn P K rs In) : ∀ n, n ≤ P → SndIn P K rs (onceTo P K r In n).1
  | 0, _ => h
  | n + 1, hn => by
    have ih := onceTo_snd hR hr h n (by omega)
    cases hb : (prem P K r (onceTo P K r In n).1 n && !(onceTo P K r In n).1 r.head.toNat n) with
    | false => rw [onceTo_stay hb]; exact ih
    | true =>
      rw [onceTo_set hb]
      rw [Bool.and_eq_true] at hb
      intro i c hic
      unfold setIn at hic
      rw [Bool.or_eq_true] at hic
      rcases hic with hx | hx
      · rw [Bool.and_eq_true] at hx
        obtain rfl := of_decide_eq_true hx.1
        obtain rfl := of_decide_eq_true hx.2
        exact ⟨head_lt hR, by omega, prem_der hR hr ih (by omega) hb.1⟩
      · exact ih i c hx
theorem onceTo_sub : ∀ n i c, In i c = true → (onceTo P K r In n).1 i c = true
  | 0, _, _, h => h
  | n + 1, i, c, h => by
    have ih := onceTo_sub n i c h
    cases hb : (prem P K r (onceTo P K r In n).1 n && !(onceTo P K r In n).1 r.head.toNat n) with
    | false => rw [onceTo_stay hb]; exact ih
    | true => rw [onceTo_set hb]; show (_ || (onceTo P K r In n).1 i c) = true; rw [ih, Bool.or_true]
theorem onceTo_tot (hR : rightB P K r = true) : ∀ n, n ≤ P → totIn P (P * K) In + (if (onceTo P K r In n).2 = true then 1 else 0) ≤ totIn P (P * K) (onceTo P K r In n).1
  | 0, _ => Nat.le_refl _
  | n + 1, hn => by
    have ih := onceTo_tot hR n (by omega)
    cases hb : (prem P K r (onceTo P K r In n).1 n && !(onceTo P K r In n).1 r.head.toNat n) with
    | false => rw [onceTo_stay hb]; exact ih
    | true =>
      rw [onceTo_set hb]
      rw [Bool.and_eq_true] at hb
      show _ ≤ totIn P (P * K) (setIn (onceTo P K r In n).1 r.head.toNat n)
      rw [totIn_set (head_lt hR) (by omega) (by simpa using hb.2), if_pos rfl]
      split at ih <;> omega
theorem onceTo_none : ∀ n, (onceTo P K r In n).2 = false → (onceTo P K r In n).1 = In ∧ ∀ c, c < n → prem P K r In c = true → In r.head.toNat c = true
  | 0, _ => ⟨rfl, fun c hc => absurd hc (Nat.not_lt_zero _)⟩
  | n + 1, h => by
    cases hb : (prem P K r (onceTo P K r In n).1 n && !(onceTo P K r In n).1 r.head.toNat n) with
    | true => rw [onceTo_set hb] at h; cases h
    | false =>
      rw [onceTo_stay hb] at h ⊢
      obtain ⟨i1, i2⟩ := onceTo_none n h
      refine ⟨i1, fun c hc hp => ?_⟩
      rcases Nat.lt_or_ge c n with h1 | h1
      · exact i2 c h1 hp
      · obtain rfl : c = n := by omega
        rw [i1, hp, Bool.true_and] at hb
        simpa using hb
theorem onceTo_quiet : ∀ n, (∀ c, c < n → prem P K r In c = true → In r.head.toNat c = true) → onceTo P K r In n = (In, false)
  | 0, _ => rfl
  | n + 1, h => by
    have ih := onceTo_quiet n (fun c hc => h c (by omega))
    have hb : (prem P K r (onceTo P K r In n).1 n && !(onceTo P K r In n).1 r.head.toNat n) = false := by
      rw [ih]
      show (prem P K r In n && !In r.head.toNat n) = false
      cases hp : prem P K r In n with
      | false => rfl
      | true => rw [h n (by omega) hp]; rfl
    rw [onceTo_stay hb, ih]
/-- Does a rule hold? Just if a look finds nothing new. -/
theorem once_holds (hR : rightB P K r = true) : (!(onceTo P K r In P).2) = holdsB P K In r := by
  have key : holdsB P K In r = true ↔ ∀ c, c < P → prem P K r In c = true → In r.head.toNat c = true := by
    obtain ⟨⟨hh0, hh1⟩, hcase⟩ := right_iff hR
    have rint : ∀ {i : Int}, 0 ≤ i → i < ((P * K : Nat) : Int) → rowP (P * K) In i = In i.toNat := fun h0 h1 => by unfold rowP; rw [if_pos ⟨h0, h1⟩]
    have bint : ∀ {i c : Int}, 0 ≤ i → i < ((P * K : Nat) : Int) → 0 ≤ c → c < (P : Int) → hasB (P * K) P In i c = In i.toNat c.toNat := fun h0 h1 c0 c1 => by
      unfold hasB; rw [rint h0 h1, decide_eq_true ⟨c0, c1⟩, Bool.true_and]
    unfold holdsB prem
    rw [hR, Bool.true_and]
    rcases hcase with ⟨k1, hw0, hw1⟩ | ⟨k2, ha0, ha1⟩ | ⟨k3, ha0, ha1, hv0, hv1⟩ | ⟨k4, ha0, ha1, hb0, hb1⟩
    · simp only [if_pos k1]
      rw [bint hh0 hh1 hw0 hw1]
      constructor
      · intro h c hc hp
        have e : (c : Int) = r.who := of_decide_eq_true hp
        rw [show c = r.who.toNat by omega]; exact h
      · intro h
        exact h r.who.toNat (by omega) (decide_eq_true (by omega))
    · simp only [if_neg (show ¬ r.kind = 1 by omega), if_pos k2]
      rw [allIn_iff, rint ha0 ha1, rint hh0 hh1]
    · simp only [if_neg (show ¬ r.kind = 1 by omega), if_neg (show ¬ r.kind = 2 by omega), if_pos k3]
      rw [List.all_eq_true, rint ha0 ha1]
      have hlink : ∀ x, x < P → rowP (P * K) In ((x : Int) * K + r.via) = In (x * K + r.via.toNat) := fun x hx => by
        have h2 := mulK_lt hx (show r.via.toNat < K by omega)
        have h3 : (x : Int) * (K : Int) = ((x * K : Nat) : Int) := by simp
        rw [h3, rint (by omega) (by omega)]
        congr 1
        omega
      constructor
      · intro h c hc hp
        obtain ⟨x, hx, h1, h2⟩ := (anyIn_iff _ _ _).1 hp
        have := h x (listTo_mem P hx h1)
        unfold hold3 at this
        rw [allIn_iff, hlink x hx, rint hh0 hh1] at this
        exact this c hc h2
      · intro h x hx
        obtain ⟨hxP, hxa⟩ := listTo_lt _ _ _ hx
        unfold hold3
        rw [allIn_iff, hlink x hxP, rint hh0 hh1]
        intro c hc h2
        exact h c hc ((anyIn_iff _ _ _).2 ⟨x, hxP, hxa, h2⟩)
    · simp only [if_neg (show ¬ r.kind = 1 by omega), if_neg (show ¬ r.kind = 2 by omega), if_neg (show ¬ r.kind = 3 by omega)]
      rw [List.all_eq_true, rint ha0 ha1]
      constructor
      · intro h c hc hp
        rw [Bool.and_eq_true] at hp
        have := h c (listTo_mem P hc hp.1)
        unfold hold4 at this
        rw [bint hb0 hb1 (by omega) (by omega), bint hh0 hh1 (by omega) (by omega), Int.toNat_natCast, hp.2] at this
        simpa using this
      · intro h x hx
        obtain ⟨hxP, hxa⟩ := listTo_lt _ _ _ hx
        unfold hold4
        rw [bint hb0 hb1 (by omega) (by omega), bint hh0 hh1 (by omega) (by omega), Int.toNat_natCast]
        cases hb : In r.b.toNat x with
        | false => rfl
        | true => rw [h x hxP (by rw [hxa, hb]; rfl)]; rfl
  cases ho : (onceTo P K r In P).2 with
  | false => rw [key.2 (onceTo_none P ho).2]; rfl
  | true =>
    cases hh : holdsB P K In r with
    | false => rfl
    | true => rw [onceTo_quiet P (key.1 hh)] at ho; cases ho
/-- Where all rules have been looked at and nothing is new, all that follows is in. -/
theorem closed_all (hrs : ∀ r, r ∈ rs → rightB P K r = true) (hc : ∀ r, r ∈ rs → ∀ c, c < P → prem P K r In c = true → In r.head.toNat c = true) (hout : ∀ i c, In i c = true → c < P) : ∀ {i c : Nat}, Der K rs i c → In i c = true := by
  intro i c d
  induction d with
  | mem r h1 h2 =>
    obtain ⟨_, hcase⟩ := right_iff (hrs r h1)
    refine hc r h1 _ (by omega) ?_
    unfold prem
    rw [if_pos h2]
    exact decide_eq_true (by omega)
  | incl r c h1 h2 _ ih =>
    refine hc r h1 c (hout _ _ ih) ?_
    unfold prem
    rw [if_neg (by omega), if_pos h2]
    exact ih
  | link r x c h1 h2 _ _ i1 i2 =>
    refine hc r h1 c (hout _ _ i2) ?_
    unfold prem
    rw [if_neg (by omega), if_neg (by omega), if_pos h2]
    exact (anyIn_iff _ _ _).2 ⟨x, hout _ _ i1, i1, i2⟩
  | both r c h1 h2 _ _ i1 i2 =>
    refine hc r h1 c (hout _ _ i1) ?_
    unfold prem
    rw [if_neg (by omega), if_neg (by omega), if_neg (by omega), i1, i2]
    rfl
end
theorem boolsInfo : (Tryd.prog.info? 67).map (fun i => (i.zero, i.size, i.bytes)) = some (some (.slice none 0 0), 1, 24) := by kernel_rfl
theorem boolInfo : (Tryd.prog.info? 4).map (fun i => (i.zero, i.size, i.bytes)) = some (some (.bool false), 1, 1) := by kernel_rfl
def rowVals (rb : Rows) (P : Nat) (i : Nat) : List Value := (List.range i).map fun j => .slice (some ⟨rb.blk j, rb.off j, none⟩) P (rb.cp j)
def setRow (rb : Rows) (i q o c : Nat) : Rows := ⟨fun j => if j = i then q else rb.blk j, fun j => if j = i then o else rb.off j, fun j => if j = i then c else rb.cp j⟩
/-- The first i rows are there. -/
structure RefB (z : Nat) (w : World) (b : Nat) (P K i : Nat) (rb : Rows) (F : Nat → Nat → Bool) (v : Value) (W : World) : Prop where
  obj : W.heap[b]? = some (.cells #[.int .i64 P, .int .i64 K, v] 42 (0, 0))
  rows : TailRow W 67 1 v i (rowVals rb P i)
  row : ∀ j, j < i → ∃ cur, W.heap[rb.blk j]? = some (.cells cur 4 (0, 0)) ∧ ∀ d, d < P → cur[rb.off j + d]? = some (.bool (F j d))
  inj : ∀ j l, j < i → l < i → rb.blk j = rb.blk l → j = l
  base : Below z w W
  zb : z ≤ b
  zr : ∀ j, j < i → z ≤ rb.blk j
  zo : ∀ k, v.ownBlock = some k → z ≤ k
section
variable {z : Nat} {w W W1 W2 : World} {b P K i : Nat} {rb : Rows} {F : Nat → Nat → Bool} {v v' : Value}
theorem RefB.quiet (hz : z ≤ w.heap.size) (h : RefB z w b P K i rb F v W) {W' : World} (hk : Keeps (fun _ => False) W W') : RefB z w b P K i rb F v W' :=
  ⟨(hk.block _ (lt_of_heap h.obj) (fun x => x)).trans h.obj, h.rows.keeps hk (fun _ _ x => x), fun j hj => by
    obtain ⟨cur, h1, h2⟩ := h.row j hj
    exact ⟨cur, (hk.block _ (lt_of_heap h1) (fun x => x)).trans h1, h2⟩, h.inj, h.base.trans (hk.below (Nat.le_trans hz h.base.size) (fun _ _ x => x)), h.zb, h.zr, h.zo⟩
theorem RefB.cells (h : RefB z w b P K i rb F v W) : W.cell? ⟨b, 0, none⟩ = some (.int .i64 P) ∧ W.cell? ⟨b, 1, none⟩ = some (.int .i64 K) ∧ W.cell? ⟨b, 2, none⟩ = some v :=
  ⟨by rw [cell_of_heap h.obj]; rfl, by rw [cell_of_heap h.obj]; rfl, by rw [cell_of_heap h.obj]; rfl⟩
theorem rowVals_set (rb : Rows) (P i q o c : Nat) : rowVals (setRow rb i q o c) P (i + 1) = rowVals rb P i ++ [.slice (some ⟨q, o, none⟩) P c] := by
  unfold rowVals
  rw [List.range_succ, List.map_append]
  congr 1
  · refine List.map_congr_left fun j hj => ?_
    have : j < i := List.mem_range.1 hj
    unfold setRow
    simp only [if_neg (show ¬ j = i by omega)]
  · simp [setRow]
/-- A row more: new memory holds it; it is appended; the field is set. -/
theorem RefB.grow (hz : z ≤ w.heap.size) (h : RefB z w b P K i rb F v W) {q o c : Nat} (k1 : Keeps (fun _ => False) W W1) (hq : ∃ cur, W1.heap[q]? = some (.cells cur 4 (0, 0)) ∧ ∀ d, d < P → cur[o + d]? = some (.bool (F i d))) (hqz : W.heap.size ≤ q)
    (hrow : TailRow W2 67 1 v' (i + 1) (rowVals rb P i ++ [.slice (some ⟨q, o, none⟩) P c])) (hg : W1.grownBy W2 v.ownBlock) (hfp : ∀ k, v'.ownBlock = some k → v.ownBlock = some k ∨ W1.heap.size ≤ k) :
    (W2.cell? ⟨b, 0, none⟩ = some (.int .i64 P) ∧ W2.cell? ⟨b, 1, none⟩ = some (.int .i64 K) ∧ W2.cell? ⟨b, 2, none⟩ = some v) ∧ W2.frozen? ⟨b, 2, none⟩ = false ∧ RefB z w b P K (i + 1) (setRow rb i q o c) F v' (W2.setCell ⟨b, 2, none⟩ v') := by
  have h1 := h.quiet hz k1
  have kg := keeps_grown hg
  have hzW : z ≤ W.heap.size := Nat.le_trans hz h.base.size
  have ob := (kg.block _ (lt_of_heap h1.obj) (h1.rows.type h1.obj (by decide))).trans h1.obj
  have ks : Keeps (fun k => k = b) W2 (W2.setCell ⟨b, 2, none⟩ v') := Keeps.setCell (S := fun k => k = b) (Keeps.refl _ W2) (p := ⟨b, 2, none⟩) (fun _ => rfl) v'
  have hr2 : ∀ (x : Nat) (c : Array Value), W1.heap[x]? = some (.cells c 4 (0, 0)) → (W2.setCell ⟨b, 2, none⟩ v').heap[x]? = some (.cells c 4 (0, 0)) := fun x c hx => by
    have e1 := (kg.block _ (lt_of_heap hx) (h1.rows.type hx (by decide))).trans hx
    exact (ks.block _ (lt_of_heap e1) (ne_of_type e1 ob (by decide))).trans e1
  have hlt : ∀ j, j < i → rb.blk j < W.heap.size := fun j hj => by
    obtain ⟨cur, hc, _⟩ := h.row j hj
    exact lt_of_heap hc
  have ei : (setRow rb i q o c).blk i = q := if_pos rfl
  have ej : ∀ j, ¬ j = i → (setRow rb i q o c).blk j = rb.blk j := fun j hj => if_neg hj
  refine ⟨⟨by rw [cell_of_heap ob]; rfl, by rw [cell_of_heap ob]; rfl, by rw [cell_of_heap ob]; rfl⟩, free_of_heap ob 2, heap_set ob 2 v', ?_, fun j hj => ?_, fun j l hj hl e => ?_, ?_, h.zb, fun j hj => ?_, fun k hk => ?_⟩
  · rw [rowVals_set]
    exact hrow.keeps ks (fun k hk e => by subst e; exact hrow.type ob (by decide) hk)
  · by_cases e : j = i
    · subst e
      obtain ⟨cur, h3, h4⟩ := hq
      refine ⟨cur, by rw [ei]; exact hr2 _ _ h3, fun d hd => ?_⟩
      rw [show (setRow rb j q o c).off j = o from if_pos rfl]
      exact h4 d hd
    · obtain ⟨cur, h3, h4⟩ := h1.row j (by omega)
      refine ⟨cur, by rw [ej j e]; exact hr2 _ _ h3, fun d hd => ?_⟩
      rw [show (setRow rb i q o c).off j = rb.off j from if_neg e]
      exact h4 d hd
  · by_cases e1 : j = i
    · by_cases e2 : l = i
      · omega
      · rw [e1, ei, ej l e2] at e
        have := hlt l (by omega); omega
    · by_cases e2 : l = i
      · rw [e2, ei, ej j e1] at e
        have := hlt j (by omega); omega
      · rw [ej j e1, ej l e2] at e
        exact h.inj j l (by omega) (by omega) e
  · have hz1 := Nat.le_trans hz h1.base.size
    have b2 := h1.base.trans (kg.below hz1 (fun k hk x => by have := h.zo k x; omega))
    exact b2.trans (ks.below (Nat.le_trans hz b2.size) (fun k hk x => by have := h.zb; omega))
  · by_cases e : j = i
    · rw [e, ei]; omega
    · rw [ej j e]; exact h.zr j (by omega)
  · rcases hfp k hk with x | x
    · exact h.zo k x
    · have := k1.size; omega
/-- A model in new memory. -/
structure RefE (z : Nat) (w : World) (b : Nat) (ao : Option Addr) (cap : Nat) (rb : Rows) (P K N : Nat) (In : Nat → Nat → Bool) (W : World) : Prop where
  mem : RefM W b ao cap rb P K N In
  base : Below z w W
  zr : ∀ j, j < N → z ≤ rb.blk j
  zb : z ≤ b
theorem RefB.done {N : Nat} (h : RefB z w b P K N rb F v W) : ∃ ao cap, v = .slice ao N cap ∧ RefE z w b ao cap rb P K N F W := by
  obtain ⟨hlen, ⟨rfl, rfl⟩ | ⟨g, k, cap, cur, rfl, hh, hle, hm, hs, hc⟩⟩ := h.rows
  · exact ⟨none, 0, rfl, ⟨h.obj, fun h0 => absurd h0 (Nat.lt_irrefl _), h.row, h.inj, Nat.le_refl _, by unfold maxLen; omega⟩, h.base, h.zr, h.zb⟩
  · refine ⟨_, cap, rfl, ⟨h.obj, fun h0 => ⟨g, k, cur, rfl, hh, fun i hi => hc i _ ?_⟩, h.row, h.inj, hle, hm⟩, h.base, h.zr, h.zb⟩
    unfold rowVals
    rw [List.getElem?_map, List.getElem?_range hi]; rfl
theorem RefE.quiet (hz : z ≤ w.heap.size) {ao : Option Addr} {cap N : Nat} {In : Nat → Nat → Bool} (h : RefE z w b ao cap rb P K N In W) {W' : World} (hk : Keeps (fun _ => False) W W') : RefE z w b ao cap rb P K N In W' :=
  ⟨h.mem.keeps hk, h.base.trans (hk.below (Nat.le_trans hz h.base.size) (fun _ _ x => x)), h.zr, h.zb⟩
theorem RefE.move (hz : z ≤ w.heap.size) {ao : Option Addr} {cap N : Nat} {In In' : Nat → Nat → Bool} (h : RefE z w b ao cap rb P K N In W) {W' : World} (hm : RefM W' b ao cap rb P K N In') (hk : Keeps (refRows rb N) W W') : RefE z w b ao cap rb P K N In' W' :=
  ⟨hm, h.base.trans (hk.below (Nat.le_trans hz h.base.size) (fun k hk x => by obtain ⟨i, hi, e⟩ := x; have := h.zr i hi; omega)), h.zr, h.zb⟩
end
section
variable {W : World} {b : Nat} {ao : Option Addr} {cap : Nat} {rb : Rows} {P K N : Nat} {In : Nat → Nat → Bool}
theorem hasB_low {N P : Nat} {In : Nat → Nat → Bool} {i c : Int} (h : ¬ (0 ≤ i ∧ i < (N : Int))) : hasB N P In i c = false := by unfold hasB rowP; rw [if_neg h, Bool.and_false]
theorem hasB_side {N P : Nat} {In : Nat → Nat → Bool} {i c : Int} (h : ¬ (0 ≤ c ∧ c < (P : Int))) : hasB N P In i c = false := by unfold hasB; rw [decide_eq_false h, Bool.false_and]
set_option maxRecDepth 100000 in
theorem rhas_spec (h : RefM W b ao cap rb P K N In) (i c : Int) : Calls Tryd.prog 13 #[.pointer (some ⟨b, 0, none⟩), .int .i64 i, .int .i64 c] W fun e W' => e = .returned (.bool (hasB N P In i c)) ∧ W = W' := by
  obtain ⟨m0, m1, m2⟩ := h.cells
  by_cases i0 : i < 0
  · rw [hasB_low (by omega)]
    clear h
    go_enter Tryd.func13, Tryd.ntmps13
    go_wp2
    go_ret
    exact ⟨rfl, rfl⟩
  have i0' : 0 ≤ i := by omega
  by_cases i1 : (N : Int) ≤ i
  · rw [hasB_low (by omega)]
    clear h
    go_enter Tryd.func13, Tryd.ntmps13
    go_wp2
    go_ret
    exact ⟨rfl, rfl⟩
  have i1' : i < (N : Int) := by omega
  by_cases c0 : c < 0
  · rw [hasB_side (by omega)]
    clear h
    go_enter Tryd.func13, Tryd.ntmps13
    go_wp2
    go_ret
    exact ⟨rfl, rfl⟩
  have c0' : 0 ≤ c := by omega
  by_cases c1 : (P : Int) ≤ c
  · rw [hasB_side (by omega)]
    clear h
    go_enter Tryd.func13, Tryd.ntmps13
    go_wp2
    go_ret
    exact ⟨rfl, rfl⟩
  have c1' : c < (P : Int) := by omega
  obtain ⟨x, rfl⟩ : ∃ x : Nat, i = x := ⟨i.toNat, by omega⟩
  obtain ⟨y, rfl⟩ : ∃ y : Nat, c = y := ⟨c.toNat, by omega⟩
  rw [hasB_nat (by omega) (by omega)]
  obtain ⟨g, k, cur, rfl, hg, hcur⟩ := h.ptr (by omega)
  have q1 : W.cell? ⟨g, k + x, none⟩ = some (.slice (some ⟨rb.blk x, rb.off x, none⟩) P (rb.cp x)) := by rw [cell_of_heap hg]; exact hcur x (by omega)
  have q2 := h.bit (i := x) (c := y) (by omega) (by omega)
  generalize In x y = v at q2 ⊢
  clear h hg hcur i0 i1 c0 c1
  go_enter Tryd.func13, Tryd.ntmps13
  go_wp2
  go_ret
  exact ⟨rfl, rfl⟩
set_option maxRecDepth 100000 in
set_option maxHeartbeats 1600000 in
theorem rmembers_spec (h : RefM W b ao cap rb P K N In) (hP : P ≤ 64) (i : Int) : Calls Tryd.prog 20 #[.pointer (some ⟨b, 0, none⟩), .int .i64 i] W (ListPost (listTo (rowP N In i) P) W) := by
  have HH : Hid (∀ W', Keeps (fun _ => False) W W' → ∀ c : Nat, c < P → Calls Tryd.prog 13 #[.pointer (some ⟨b, 0, none⟩), .int .i64 i, .int .i64 c] W' fun e w' => e = .returned (.bool (rowP N In i c)) ∧ W' = w') := fun W' hW c hc => by
    have := rhas_spec (h.keeps hW) i (c : Int)
    have e : hasB N P In i c = rowP N In i c := by
      unfold hasB
      rw [decide_eq_true (show (0 : Int) ≤ c ∧ (c : Int) < P by omega), Bool.true_and, Int.toNat_natCast]
    rw [e] at this
    exact this
  have c1 : W.cell? ⟨b, 0, none⟩ = some (.int .i64 P) := h.cells.1
  have lr : b < W.heap.size := lt_of_heap h.obj
  generalize rowP N In i = p at HH ⊢
  clear h
  obtain ⟨i0, hi, hz0, hz1, hz2⟩ := info_parts lIntInfo
  go_enter Tryd.func20, Tryd.ntmps20
  go_wp2_with fail
  go_loopg [5, 6] P (fun g s5 s6 wr => ∃ (c : Nat) (v : Value), c ≤ P ∧ g = P - c ∧ s6 = .int .i64 c ∧ s5 = v ∧ Hid (wr.ownsRow W.heap.size 3 1 v (listTo p c).length ((listTo p c).map intV)) ∧ Hid (Below W.heap.size W wr))
  case atStart => exact ⟨0, _, Nat.zero_le _, rfl, rfl, rfl, World.ownsRow_nil _ _ _ _, Below.refl _ _⟩
  case round =>
    obtain ⟨c, v, hc, rfl, rfl, rfl, hown, hb⟩ := hrel
    have d1 := (hb.out.cell (p := ⟨b, 0, none⟩) lr).trans c1
    have hCI : (P : Int) ≤ 1000 := by omega
    by_cases hlt : c < P
    · have hcI : (c : Int) < (P : Int) := by omega
      have HC := Lib.hid (HH.out wr (Keeps.of_below hb.out (Nat.le_refl _)) c hlt)
      have hlen : (listTo p c).length ≤ c := by rw [listTo_len]; exact cnt_le _ _
      cases hp : p c with
      | true =>
        rw [hp] at HC
        have hl : Hid (listTo p (c + 1) = listTo p c ++ [c]) := by show (if p c = true then _ else _) = _; rw [if_pos hp]
        clear hp
        go_wp2_with fail
        refine HC.out.mono ?_
        rintro e w2 ⟨rfl, rfl⟩
        have hzs := hb.out.size
        have how := hown.out
        have hob := Lib.hid (own_block how)
        have HB3 := hb
        clear HC hown d1
        go_wp2_with (at_builtin; refine wpList_append_own _ rfl _ _ 43 rfl W.heap.size 3 i0 _ 1 8 Tryd.underlying43 hi hz0 hz1 hz2 rfl (by decide) _ _ _ rfl (how.alloc _) ⟨wr.heap.size, 0, none⟩ 1 1 [.int .i64 (c : Int)] rfl rfl (cells_new wr _ _) (by intro u hu; simp only [List.mem_cons, List.not_mem_nil, or_false] at hu; subst hu; rfl) (by unfold maxLen; omega) (by omega) (by simp; omega) ?_)
        intro v2 w3 hown2 hgrow _
        have hnew : Hid (w3.ownsRow W.heap.size 3 1 v2 (listTo p (c + 1)).length ((listTo p (c + 1)).map intV)) := by
          show w3.ownsRow _ _ _ _ _ _
          rw [hl.out, List.length_append, List.map_append]
          exact hown2
        have hbn : Hid (Below W.heap.size W w3) := (HB3.out.alloc hzs _).trans ((keeps_grown hgrow).below (by simp; omega) (fun k hk e => by have := hob.out k e; omega))
        clear hown2 hgrow how hzs hob HB3
        go_wp2_with fail
        go_roundg (P - (c + 1))
        case measure => omega
        case rel => exact ⟨c + 1, _, by omega, rfl, by go_num, rfl, hnew.out, hbn.out⟩
      | false =>
        rw [hp] at HC
        have hl : Hid (listTo p (c + 1) = listTo p c) := by show (if p c = true then _ else _) = _; rw [if_neg (by rw [hp]; simp)]
        clear hp
        go_wp2_with fail
        refine HC.out.mono ?_
        rintro e w2 ⟨rfl, rfl⟩
        clear HC d1
        go_wp2_with fail
        go_roundg (P - (c + 1))
        case measure => omega
        case rel => exact ⟨c + 1, _, by omega, rfl, by go_num, rfl, by rw [hl.out]; exact hown.out, hb.out⟩
    · obtain rfl : c = P := by omega
      go_wp2
      go_ret
      exact ⟨_, rfl, hown.out, hb.out⟩
end
end Go.Proofs.YtaabmkebbnkonaaDoor
