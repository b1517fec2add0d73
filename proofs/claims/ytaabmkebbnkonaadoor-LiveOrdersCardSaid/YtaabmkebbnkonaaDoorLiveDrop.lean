/-
  A rule that goes: the walk of Drop.
-/
import Derived.Test.YtaabmkebbnkonaaDoorLiveDel
import Derived.Test.YtaabmkebbnkonaaDoorMD
set_option linter.unusedVariables false
set_option linter.unusedSimpArgs false
set_option linter.unnecessarySimpa false
namespace Go.Proofs.YtaabmkebbnkonaaDoor
open Go.ChangeShapes Go.WideShapes Go.ChangeAt Go.RowKit Go.Deep SetPlain
/-- Those of a role's members who are in it no more. -/
def diffRow (B : Nat → Nat → Bool) (i : Nat) (l : List Nat) : List (Nat × Nat) := (l.filter (fun c => !B i c)).map (fun c => (i, c))
theorem diffRow_snoc (B : Nat → Nat → Bool) (i : Nat) (l : List Nat) (c : Nat) : diffRow B i (l ++ [c]) = diffRow B i l ++ (if B i c = true then [] else [(i, c)]) := by
  unfold diffRow
  rw [List.filter_append, List.map_append]
  congr 1
  cases h : B i c <;> simp [h]
def diffTo (A B : Nat → Nat → Bool) (P : Nat) : Nat → List (Nat × Nat)
  | 0 => []
  | i + 1 => diffTo A B P i ++ diffRow B i (listTo (A i) P)
theorem diffTo_mem (A B : Nat → Nat → Bool) (P : Nat) : ∀ (n i c : Nat), (i, c) ∈ diffTo A B P n ↔ i < n ∧ c < P ∧ A i c = true ∧ B i c = false
  | 0, i, c => by
    unfold diffTo
    constructor
    · intro h; cases h
    · rintro ⟨h, _⟩; omega
  | n + 1, i, c => by
    unfold diffTo diffRow
    rw [List.mem_append, diffTo_mem A B P n i c]
    constructor
    · rintro (⟨h1, h2⟩ | h)
      · exact ⟨by omega, h2⟩
      · obtain ⟨x, hx, e⟩ := List.mem_map.1 h
        simp only [Prod.mk.injEq] at e
        obtain ⟨rfl, rfl⟩ := e
        rw [List.mem_filter, listTo_iff] at hx
        exact ⟨by omega, hx.1.1, hx.1.2, by simpa using hx.2⟩
    · rintro ⟨h1, h2, h3, h4⟩
      by_cases e : i = n
      · subst e
        refine .inr (List.mem_map.2 ⟨c, ?_, rfl⟩)
        rw [List.mem_filter, listTo_iff]
        exact ⟨⟨h2, h3⟩, by simp [h4]⟩
      · exact .inl ⟨by omega, h2, h3, h4⟩
theorem diffTo_rises (A B : Nat → Nat → Bool) (P : Nat) : ∀ n, (diffTo A B P n).Pairwise (fun x y => x.1 < y.1 ∨ (x.1 = y.1 ∧ x.2 < y.2))
  | 0 => List.Pairwise.nil
  | n + 1 => by
    unfold diffTo
    rw [List.pairwise_append]
    refine ⟨diffTo_rises A B P n, ?_, fun x hx y hy => ?_⟩
    · unfold diffRow
      rw [List.pairwise_map]
      exact ((listTo_rises (A n) P).filter _).imp (fun h => .inr ⟨rfl, h⟩)
    · obtain ⟨a, b⟩ := x
      have h1 := ((diffTo_mem A B P n a b).1 hx).1
      unfold diffRow at hy
      obtain ⟨c, _, rfl⟩ := List.mem_map.1 hy
      exact .inl h1
theorem diffRow_len (A B : Nat → Nat → Bool) (P i : Nat) (l : List Nat) : (diffRow B i l).length ≤ l.length := by
  unfold diffRow
  rw [List.length_map]
  exact List.length_filter_le _ _
theorem diffTo_len (A B : Nat → Nat → Bool) (P : Nat) : ∀ n, (diffTo A B P n).length ≤ n * P
  | 0 => by unfold diffTo; simp
  | n + 1 => by
    unfold diffTo
    have h1 := diffTo_len A B P n
    have h2 := diffRow_len A B P n (listTo (A n) P)
    have h3 : (listTo (A n) P).length ≤ P := by rw [listTo_len]; exact cnt_le _ _
    rw [List.length_append, Nat.succ_mul]
    omega
theorem diff_drop {P K : Nat} {rs rs' : List Rl} {In In2 : Nat → Nat → Bool} (h0 : ∀ i c, In i c = true ↔ i < P * K ∧ c < P ∧ Der K rs i c) (h1 : ∀ i c, In2 i c = true ↔ i < P * K ∧ c < P ∧ Der K rs' i c) : Diff P K rs' rs (diffTo In In2 P (P * K)) := by
  refine ⟨diffTo_rises _ _ _ _, fun i c => ?_⟩
  rw [diffTo_mem, h0]
  constructor
  · rintro ⟨a1, a2, ⟨_, _, a3⟩, a4⟩
    refine ⟨a1, a2, a3, fun d => ?_⟩
    rw [(h1 i c).2 ⟨a1, a2, d⟩] at a4
    cases a4
  · rintro ⟨a1, a2, a3, a4⟩
    refine ⟨a1, a2, ⟨a1, a2, a3⟩, ?_⟩
    cases e : In2 i c with
    | false => rfl
    | true => exact absurd ((h1 i c).1 e).2.2 a4
theorem del_any {W : World} {g o cap m i : Nat} {rs : List Rl} {cur : Array Value} (hh : W.heap[g]? = some (.cells cur 29 (0, 0))) (hn : rs.length = m + 1) (hi : i ≤ m) (hle : m + 1 ≤ cap) (hm : m ≤ 1000) (hsz : o + cap * 6 ≤ cur.size) (ht : ∀ j u, (rlCells rs)[j]? = some u → cur[o + j]? = some u) :
    Calls Tryd.prog 28 #[.slice (some ⟨g, o, none⟩) (m + 1) cap, .int .i64 i, .int .i64 ((i : Int) + 1)] W fun e W' => e = .returned (.slice (some ⟨g, o, none⟩) m cap) ∧ W' = (W.drew.setCells g (o + i * 6) (rlCells (rs.drop (i + 1)))).setCells g (o + m * 6) zeroL := by
  by_cases hc : cap = i + 1
  · obtain rfl : i = m := by omega
    subst hc
    exact del_end hh hn hm hsz ht
  · exact del_far hh hn hi hle hm hsz ht hc
/-- What Drop may answer. -/
def DropR (P K : Nat) (rs : List Rl) (r : Rl) (rs' : List Rl) (ans : List (Nat × Nat)) (code : Int) : Prop :=
  (r ∉ rs ∧ rs' = rs ∧ ans = [] ∧ code = 7) ∨ (∃ i, rs[i]? = some r ∧ rs' = rs.eraseIdx i ∧ Diff P K rs' rs ans ∧ code = 0)
def DropPost2 (z : Nat) (W : World) (lb P K : Nat) (rs : List Rl) (Fp : Nat → Prop) (r : Rl) (e : Ending) (W' : World) : Prop :=
  ∃ u code rs' ans Fp', e = .returned (.tuple #[u, .int .i64 code]) ∧ Hid (LvIs z W' lb P K rs' Fp' ∧ MvF W W' Fp Fp' ∧ ReadsP W' u ans ∧ (∀ k, u.ownBlock = some k → W.heap.size ≤ k) ∧ DropR P K rs r rs' ans code)
theorem drop_stay {z : Nat} {W : World} {lb P K : Nat} {rs : List Rl} {Fp : Nat → Prop} {r : Rl} (h : LvIs z W lb P K rs Fp) {W' : World} (hk : Keeps (fun _ => False) W W') (hc : r ∉ rs) : DropPost2 z W lb P K rs Fp r (.returned (.tuple #[.slice none 0 0, .int .i64 7])) W' :=
  ⟨.slice none 0 0, 7, rs, [], Fp, rfl, h.quiet hk, .quiet hk, ⟨none, 0, rfl, Nat.le_refl _, fun h => absurd h (Nat.lt_irrefl _)⟩, fun k e => (by cases e), .inl ⟨hc, rfl, rfl, rfl⟩⟩
/-- A family that was, beside the one that is. -/
structure Two (W : World) (lb fb bw : Nat) (rb : Nat → Nat) (N P : Nat) (In : Nat → Nat → Bool) (tot fb2 bw2 : Nat) (rb2 : Nat → Nat) (In2 : Nat → Nat → Bool) (tot2 : Nat) : Prop where
  old : FamMem W fb bw rb N P In tot
  new : FamMem W fb2 bw2 rb2 N P In2 tot2
  cell : W.cell? ⟨lb, 0, none⟩ = some (.pointer (some ⟨fb2, 0, none⟩))
  tab : TabIn W
theorem Two.quiet {W W' : World} {lb fb bw : Nat} {rb : Nat → Nat} {N P : Nat} {In : Nat → Nat → Bool} {tot fb2 bw2 : Nat} {rb2 : Nat → Nat} {In2 : Nat → Nat → Bool} {tot2 : Nat} (h : Two W lb fb bw rb N P In tot fb2 bw2 rb2 In2 tot2) (hk : Keeps (fun _ => False) W W') : Two W' lb fb bw rb N P In tot fb2 bw2 rb2 In2 tot2 :=
  ⟨h.old.keeps hk (fun _ _ x => x), h.new.keeps hk (fun _ _ x => x), (hk.cell (p := ⟨lb, 0, none⟩) (lt_of_cell h.cell) (fun x => x)).trans h.cell, h.tab.keeps hk (fun x => x)⟩
theorem drop_new {z : Nat} {W wE wM : World} {lb fb bw : Nat} {rb : Nat → Nat} {P K g o m cv : Nat} {In : Nat → Nat → Bool} {tot : Nat} {rs rs' : List Rl} {Fp : Nat → Prop} {mo fb2 bw2 : Nat} {rb2 : Nat → Nat} {In2 : Nat → Nat → Bool} {tot2 steps2 i : Nat} {r : Rl}
    (h : LvMem z W lb fb bw rb P K (.slice (some ⟨g, o, none⟩) (m + 1) cv) In tot rs) (hFp : ∀ k, Fp k ↔ lvFp lb fb bw rb (P * K) (.slice (some ⟨g, o, none⟩) (m + 1) cv) k) (hIn : ∀ i c, In i c = true ↔ i < P * K ∧ c < P ∧ Der K rs i c)
    (hzW : z ≤ W.heap.size) (hz : 0 < z) (hKE : Keeps (lvFp lb fb bw rb (P * K) (.slice (some ⟨g, o, none⟩) (m + 1) cv)) W wE) (hOE : wE.heap[lb]? = some (lvObj fb (.slice (some ⟨g, o, none⟩) m cv) P K)) (hFE : FamMem wE fb bw rb (P * K) P In tot)
    (hRE : TailRow wE 29 6 (.slice (some ⟨g, o, none⟩) m cv) rs'.length (rlCells rs')) (hTE : TabIn wE) (hMA : ModAt wE.drew.heap.size wE.drew mo fb2 bw2 rb2 P K rs' In2 tot2 steps2 wM) (hkM : Keeps (fun _ => False) wE wM)
    (hnd' : rs'.Nodup) (hrt : ∀ x ∈ rs', rightB P K x = true) (hflt : rs'.filter (fun x => rightB P K x) = rs') (hri : rs[i]? = some r) (hrs : rs.eraseIdx i = rs') :
    Two (wM.setCell ⟨lb, 0, none⟩ (.pointer (some ⟨fb2, 0, none⟩))) lb fb bw rb (P * K) P In tot fb2 bw2 rb2 In2 tot2 ∧ W.heap.size ≤ (wM.setCell ⟨lb, 0, none⟩ (.pointer (some ⟨fb2, 0, none⟩))).heap.size ∧
    (∀ w' u ans, Keeps (fun _ => False) (wM.setCell ⟨lb, 0, none⟩ (.pointer (some ⟨fb2, 0, none⟩))) w' → ReadsP w' u ans → (∀ k, u.ownBlock = some k → W.heap.size ≤ k) → Diff P K rs' rs ans → DropPost2 z W lb P K rs Fp r (.returned (.tuple #[u, .int .i64 0])) w') ∧ Diff P K rs' rs (diffTo In In2 P (P * K)) ∧
    ((wM.setCell ⟨lb, 0, none⟩ (.pointer (some ⟨fb2, 0, none⟩))).cell? ⟨lb, 1, none⟩ = some (.slice (some ⟨g, o, none⟩) m cv) ∧ (wM.setCell ⟨lb, 0, none⟩ (.pointer (some ⟨fb2, 0, none⟩))).cell? ⟨lb, 2, none⟩ = some (.int .i64 (P : Int)) ∧ (wM.setCell ⟨lb, 0, none⟩ (.pointer (some ⟨fb2, 0, none⟩))).cell? ⟨lb, 3, none⟩ = some (.int .i64 (K : Int))) := by
  have hobM := (hkM.block _ (lt_of_heap hOE) (fun x => x)).trans hOE
  obtain ⟨wF, hwF⟩ : ∃ wF, wM.setCell ⟨lb, 0, none⟩ (.pointer (some ⟨fb2, 0, none⟩)) = wF := ⟨_, rfl⟩
  have hkF : Keeps (fun k => k = lb) wM wF := by rw [← hwF]; exact Keeps.setCell (S := fun k => k = lb) (Keeps.refl _ wM) (p := ⟨lb, 0, none⟩) (fun _ => rfl) _
  have hobF : wF.heap[lb]? = some (lvObj fb2 (.slice (some ⟨g, o, none⟩) m cv) P K) := by unfold lvObj at hobM; rw [← hwF, heap_set hobM]; rfl
  rw [hwF]
  have hgne : g ≠ lb := fun e => h.vl (by rw [← e]; rfl)
  have hlbE : lb < wE.heap.size := lt_of_heap hOE
  have hszE : W.heap.size ≤ wE.heap.size := hKE.size
  have hzf2 : ∀ k, famFp fb2 bw2 rb2 (P * K) k → wE.heap.size ≤ k := fun k hk => hMA.zf k hk
  have hlb0 : lb ≠ 0 := fun e => by have := h.zl; omega
  have hgE : g < wE.heap.size := by
    obtain ⟨_, hx⟩ := TailRow.lt hRE g rfl
    exact lt_of_heap hx
  have hnew : FamMem wF fb2 bw2 rb2 (P * K) P In2 tot2 := hMA.fam.keeps hkF (fun k hf e => by have := hzf2 k hf; omega)
  have hlv : LvMem z wF lb fb2 bw2 rb2 P K (.slice (some ⟨g, o, none⟩) m cv) In2 tot2 rs' :=
    ⟨hobF, hnew, TailRow.keeps (TailRow.keeps hRE hkM (fun _ _ x => x)) hkF (fun k e e2 => by simp only [Value.ownBlock, Option.some.injEq] at e; omega), fun k e => h.zv k e, fun hf => by have := hzf2 _ hf; omega, fun e => by simp only [Value.ownBlock, Option.some.injEq] at e; exact hgne e, fun k e hf => by simp only [Value.ownBlock, Option.some.injEq] at e; have := hzf2 _ hf; omega, h.zl, fun k hf => by have := hzf2 _ hf; omega, h.hP, h.hK, by
      have := h.len
      have h2 : (rs.eraseIdx i).length ≤ rs.length := List.length_eraseIdx_le _ _
      rw [hrs] at h2
      omega, hMA.tots, hrt⟩
  have hIn2 : ∀ i c, In2 i c = true ↔ i < P * K ∧ c < P ∧ Der K rs' i c := fun i c => by
    have ht := hMA.tells i c
    rw [hflt] at ht
    exact ⟨fun e => ⟨(hMA.rng i c e).1, (hMA.rng i c e).2, ht.1 e⟩, fun e => ht.2 e.2.2⟩
  refine ⟨⟨(hFE.keeps hkM (fun _ _ x => x)).keeps hkF (fun k hf e => h.lf (e ▸ hf)), hnew, ?_, (hTE.keeps hkM (fun x => x)).keeps hkF (fun e => hlb0 e.symm)⟩, Nat.le_trans hszE (Nat.le_trans hkM.size hkF.size), fun w' u ans hk hr hu hd => ?_, diff_drop hIn hIn2, ?_⟩
  · unfold lvObj at hobF; rw [cell_of_heap hobF]; rfl
  · have hlv2 := hlv.quiet hk
    refine ⟨u, 0, rs', ans, lvFp lb fb2 bw2 rb2 (P * K) (.slice (some ⟨g, o, none⟩) m cv), rfl, ⟨_, _, _, _, _, _, hlv2, hnd', hIn2, fun k => Iff.rfl⟩, ⟨?_, ?_⟩, hr, hu, .inr ⟨i, hri, hrs.symm, hd, rfl⟩⟩
    · have a1 : Keeps Fp W wE := hKE.mono (fun k _ e => (hFp k).2 e)
      have a2 : Keeps Fp wE wM := hkM.mono (fun _ _ x => x.elim)
      have a3 : Keeps Fp wM wF := hkF.mono (fun k _ e => (hFp k).2 (.inl e))
      have a4 : Keeps Fp wF w' := hk.mono (fun _ _ x => x.elim)
      exact ((a1.trans a2).trans a3).trans a4
    · rintro k (e | e | e)
      · exact .inl ((hFp k).2 (.inl e))
      · exact .inr (Nat.le_trans hszE (hzf2 k e))
      · exact .inl ((hFp k).2 (.inr (.inr e)))
  · unfold lvObj at hobF
    refine ⟨?_, ?_, ?_⟩ <;> (rw [cell_of_heap hobF]; rfl)
set_option maxRecDepth 100000
set_option maxHeartbeats 6400000
theorem drop_spec {z : Nat} {W : World} {lb P K : Nat} {rs : List Rl} {Fp : Nat → Prop} (h : LvIs z W lb P K rs Fp) (hz : 0 < z) (hzW : z ≤ W.heap.size) (hT : TabIn W) (hlen : rs.length ≤ 900) (r : Rl) :
    Calls Tryd.prog 9 #[.pointer (some ⟨lb, 0, none⟩), .agg #[.int .i64 r.kind, .int .i64 r.head, .int .i64 r.who, .int .i64 r.a, .int .i64 r.b, .int .i64 r.via]] W (DropPost2 z W lb P K rs Fp r) := by
  obtain ⟨i0, hi0, hz0, hz1, hz2⟩ := info_parts pairInfo
  have HI := Lib.hid h
  obtain ⟨fb, bw, rb, v, In, tot, hL, hnd, hIn, hFp⟩ := h
  obtain ⟨av, cv, rfl, hcv, hmxv, hrow⟩ := TailRow.rules hL.row
  have hlb := lt_of_heap hL.obj
  obtain ⟨n, hn⟩ : ∃ n, rs.length = n := ⟨_, rfl⟩
  have HNN := Lib.hid hn
  obtain ⟨w1, hw1⟩ : ∃ w1, (W.alloc (.cells #[.int .i64 r.kind, .int .i64 r.head, .int .i64 r.who, .int .i64 r.a, .int .i64 r.b, .int .i64 r.via] 29)) = w1 := ⟨_, rfl⟩
  have hal := (MapKept.heap_alloc W (.cells #[.int .i64 r.kind, .int .i64 r.head, .int .i64 r.who, .int .i64 r.a, .int .i64 r.b, .int .i64 r.via] 29)).1
  have k1 : Keeps (fun _ => False) W (W.alloc (.cells #[.int .i64 r.kind, .int .i64 r.head, .int .i64 r.who, .int .i64 r.a, .int .i64 r.b, .int .i64 r.via] 29)) := (Keeps.refl _ _).alloc _
  rw [hw1] at hal k1
  obtain ⟨xb, hxb⟩ : ∃ xb, W.heap.size = xb := ⟨_, rfl⟩
  rw [hxb] at hal
  have hLQ := hL.quiet k1
  rw [hn] at hL hcv hlen hFp
  have HLM := Lib.hid hL
  have HFP := Lib.hid hFp
  have HIn := Lib.hid hIn
  have HND := Lib.hid hnd
  have HK1 := Lib.hid k1
  have HTW := Lib.hid hT
  have HS : Hid (∀ w', Keeps (fun _ => False) w1 w' → (w'.cell? ⟨lb, 1, none⟩ = some (.slice av n cv) ∧ w'.cell? ⟨xb, 0, none⟩ = some (.int .i64 r.kind) ∧ w'.cell? ⟨xb, 1, none⟩ = some (.int .i64 r.head) ∧ w'.cell? ⟨xb, 2, none⟩ = some (.int .i64 r.who) ∧ w'.cell? ⟨xb, 3, none⟩ = some (.int .i64 r.a) ∧ w'.cell? ⟨xb, 4, none⟩ = some (.int .i64 r.b) ∧ w'.cell? ⟨xb, 5, none⟩ = some (.int .i64 r.via))) := fun w' hk => by
    obtain ⟨_, c1, _, _⟩ := (hLQ.quiet hk).cells
    rw [hn] at c1
    have e := (hk.block _ (lt_of_heap hal) (fun x => x)).trans hal
    refine ⟨c1, ?_, ?_, ?_, ?_, ?_, ?_⟩ <;> (rw [cell_of_heap e]; rfl)
  have HRW : Hid (∀ w', Keeps (fun _ => False) w1 w' → Calls Tryd.prog 25 #[.slice av n cv, .agg #[.int .i64 r.kind, .int .i64 r.head, .int .i64 r.who, .int .i64 r.a, .int .i64 r.b, .int .i64 r.via]] w' (CtPost w' rs r)) := fun w' hk =>
    rcontains_spec (hrow.keeps ((k1.trans hk).below (Nat.le_refl _) (fun _ _ x => x)) (fun _ _ _ h => h)) hn hcv (by omega) r
  have HRX : Hid (∀ w', Keeps (fun _ => False) w1 w' → Calls Tryd.prog 27 #[.slice av n cv, .agg #[.int .i64 r.kind, .int .i64 r.head, .int .i64 r.who, .int .i64 r.a, .int .i64 r.b, .int .i64 r.via]] w' (IxPost w' rs r)) := fun w' hk =>
    rindex_spec (hrow.keeps ((k1.trans hk).below (Nat.le_refl _) (fun _ _ x => x)) (fun _ _ _ h => h)) hn hcv (by omega) r
  have H0 := HS.out w1.drew ((Keeps.refl _ _).drew)
  obtain ⟨ct, hct⟩ : ∃ ct, decide (r ∈ rs) = ct := ⟨_, rfl⟩
  have HCB := Lib.hid hct
  have HCT : Hid (Calls Tryd.prog 25 #[.slice av n cv, .agg #[.int .i64 r.kind, .int .i64 r.head, .int .i64 r.who, .int .i64 r.a, .int .i64 r.b, .int .i64 r.via]] w1.drew fun e w2 => e = .returned (.bool ct) ∧ Hid (Keeps (fun _ => False) w1 w2)) := (HRW.out w1.drew ((Keeps.refl _ _).drew)).mono fun e w2 h => by
    obtain ⟨rfl, h2⟩ := h
    exact ⟨by rw [hct], ((Keeps.refl _ _).drew).trans h2.out⟩
  clear hL hFp hIn hnd k1 hal hT hLQ hrow hmxv HRW hct
  go_enter Tryd.func9, Tryd.ntmps9
  go_upto_region 1 with fail
  (try simp only [hw1])
  (try simp only [hxb])
  clear hw1
  refine wp_region_noPanic ?_
  refine wp_region_held_drew (S := (fun w' => (w'.cell? ⟨lb, 1, none⟩ = some (.slice av n cv) ∧ w'.cell? ⟨xb, 0, none⟩ = some (.int .i64 r.kind) ∧ w'.cell? ⟨xb, 1, none⟩ = some (.int .i64 r.head) ∧ w'.cell? ⟨xb, 2, none⟩ = some (.int .i64 r.who) ∧ w'.cell? ⟨xb, 3, none⟩ = some (.int .i64 r.a) ∧ w'.cell? ⟨xb, 4, none⟩ = some (.int .i64 r.b) ∧ w'.cell? ⟨xb, 5, none⟩ = some (.int .i64 r.via)))) (by kernel_rfl) H0 (fun hHeld => ?_)
  refine wpAnyH_take_at (i := 0) (v := ?v0) rfl (by kernel_rfl) (by kernel_rfl) (by kernel_rfl) (fun _ _ _ h => h) (Or.inl ⟨by rfl, ?y0⟩) hHeld ?r0
  case y0 => (intro w hSw; (try dsimp only at hSw); go_simp; first | done | with_reducible rfl)
  (try simp only [Act.put, List.setIfInBounds_toArray, List.set_cons_zero, List.set_cons_succ])
  refine wpAnyH_take_at (i := 1) (v := ?v1) rfl (by kernel_rfl) (by kernel_rfl) (by kernel_rfl) (fun _ _ _ h => h) (Or.inl ⟨by rfl, ?y1⟩) hHeld ?r1
  case y1 => (intro w hSw; (try dsimp only at hSw); go_simp; first | done | with_reducible rfl)
  (try simp only [Act.put, List.setIfInBounds_toArray, List.set_cons_zero, List.set_cons_succ])
  refine wpAnyH_take_at (i := 2) (v := ?v2) rfl (by kernel_rfl) (by kernel_rfl) (by kernel_rfl) (fun _ _ _ h => h) (Or.inl ⟨by rfl, ?y2⟩) hHeld ?r2
  case y2 => (intro w hSw; (try dsimp only at hSw); go_simp; first | done | with_reducible rfl)
  (try simp only [Act.put, List.setIfInBounds_toArray, List.set_cons_zero, List.set_cons_succ])
  refine wpAnyH_take_at (i := 3) (v := ?v3) rfl (by kernel_rfl) (by kernel_rfl) (by kernel_rfl) (fun _ _ _ h => h) (Or.inl ⟨by rfl, ?y3⟩) hHeld ?r3
  case y3 => (intro w hSw; (try dsimp only at hSw); go_simp; first | done | with_reducible rfl)
  (try simp only [Act.put, List.setIfInBounds_toArray, List.set_cons_zero, List.set_cons_succ])
  refine wpAnyH_take_at (i := 4) (v := ?v4) rfl (by kernel_rfl) (by kernel_rfl) (by kernel_rfl) (fun _ _ _ h => h) (Or.inl ⟨by rfl, ?y4⟩) hHeld ?r4
  case y4 => (intro w hSw; (try dsimp only at hSw); go_simp; first | done | with_reducible rfl)
  (try simp only [Act.put, List.setIfInBounds_toArray, List.set_cons_zero, List.set_cons_succ])
  refine wpAnyH_take_at (i := 5) (v := ?v5) rfl (by kernel_rfl) (by kernel_rfl) (by kernel_rfl) (fun _ _ _ h => h) (Or.inl ⟨by rfl, ?y5⟩) hHeld ?r5
  case y5 => (intro w hSw; (try dsimp only at hSw); go_simp; first | done | with_reducible rfl)
  (try simp only [Act.put, List.setIfInBounds_toArray, List.set_cons_zero, List.set_cons_succ])
  refine wpAnyH_take_at (i := 6) (v := ?v6) rfl (by kernel_rfl) (by kernel_rfl) (by kernel_rfl) (fun _ _ _ h => h) (Or.inl ⟨by rfl, ?y6⟩) hHeld ?r6
  case y6 => (intro w hSw; (try dsimp only at hSw); go_simp; first | done | with_reducible rfl)
  (try simp only [Act.put, List.setIfInBounds_toArray, List.set_cons_zero, List.set_cons_succ])
  refine wpAnyH_take_at (i := 7) (v := ?v7) rfl (by kernel_rfl) (by kernel_rfl) (by kernel_rfl) (fun _ _ _ h => h) (Or.inl ⟨by rfl, ?y7⟩) hHeld ?r7
  case y7 => (intro w hSw; (try dsimp only at hSw); go_simp; first | done | with_reducible rfl)
  (try simp only [Act.put, List.setIfInBounds_toArray, List.set_cons_zero, List.set_cons_succ])
  refine wpAnyH_one (i := 8) (by kernel_rfl) rfl (fun KK hK => ?_)
  go_simp
  refine HCT.out.mono ?_
  rintro e wA ⟨rfl, hkA⟩
  go_simp
  refine hK.out _ _ ?s8 (fun hHeld => ?_)
  case s8 => exact HS.out _ hkA.out
  clear hK KK
  (try simp only [Act.put, List.setIfInBounds_toArray, List.set_cons_zero, List.set_cons_succ])
  refine wpAnyH_take_at (i := 9) (v := ?v9) rfl (by kernel_rfl) (by kernel_rfl) (by kernel_rfl) (fun _ _ _ h => h) (Or.inl ⟨by rfl, ?y9⟩) hHeld ?r9
  case y9 => (intro w hSw; (try dsimp only at hSw); go_simp; first | done | with_reducible rfl)
  (try simp only [Act.put, List.setIfInBounds_toArray, List.set_cons_zero, List.set_cons_succ])
  refine wpAnyH_take_at (i := 10) (v := ?v10) rfl (by kernel_rfl) (by kernel_rfl) (by kernel_rfl) (fun _ _ _ h => h) (Or.inl ⟨by rfl, ?y10⟩) hHeld ?r10
  case y10 => (intro w hSw; (try dsimp only at hSw); go_simp; first | done | with_reducible rfl)
  (try simp only [Act.put, List.setIfInBounds_toArray, List.set_cons_zero, List.set_cons_succ])
  refine wpAnyH_done (by kernel_rfl) ?_ _
  refine NoPanic.normal ?_
  have HKA := Lib.hid hkA.out
  clear hHeld H0 HCT hkA
  cases ct with
  | false =>
    have HF := Lib.hid (drop_stay (r := r) HI.out (HK1.out.trans HKA.out) (of_decide_eq_false HCB.out))
    clear HI HK1 HKA HS HLM HFP HIn HND HTW HRX HCB
    go_wp2_with fail
    go_ret2
    exact HF.out
  | true =>
    have H1 := HS.out wA.drew (HKA.out.trans ((Keeps.refl _ _).drew))
    have HIX := Lib.hid (HRX.out wA.drew (HKA.out.trans ((Keeps.refl _ _).drew)))
    clear HRX
    go_upto_region 3 with fail
    refine wp_region_noPanic ?_
    refine wp_region_held_drew (S := (fun w' => (w'.cell? ⟨lb, 1, none⟩ = some (.slice av n cv) ∧ w'.cell? ⟨xb, 0, none⟩ = some (.int .i64 r.kind) ∧ w'.cell? ⟨xb, 1, none⟩ = some (.int .i64 r.head) ∧ w'.cell? ⟨xb, 2, none⟩ = some (.int .i64 r.who) ∧ w'.cell? ⟨xb, 3, none⟩ = some (.int .i64 r.a) ∧ w'.cell? ⟨xb, 4, none⟩ = some (.int .i64 r.b) ∧ w'.cell? ⟨xb, 5, none⟩ = some (.int .i64 r.via)))) (by kernel_rfl) H1 (fun hHeld => ?_)
    refine wpAnyH_take_at (i := 0) (v := ?v0b) rfl (by kernel_rfl) (by kernel_rfl) (by kernel_rfl) (fun _ _ _ h => h) (Or.inl ⟨by rfl, ?y0b⟩) hHeld ?r0b
    case y0b => (intro w hSw; (try dsimp only at hSw); go_simp; first | done | with_reducible rfl)
    (try simp only [Act.put, List.setIfInBounds_toArray, List.set_cons_zero, List.set_cons_succ])
    refine wpAnyH_take_at (i := 1) (v := ?v1b) rfl (by kernel_rfl) (by kernel_rfl) (by kernel_rfl) (fun _ _ _ h => h) (Or.inl ⟨by rfl, ?y1b⟩) hHeld ?r1b
    case y1b => (intro w hSw; (try dsimp only at hSw); go_simp; first | done | with_reducible rfl)
    (try simp only [Act.put, List.setIfInBounds_toArray, List.set_cons_zero, List.set_cons_succ])
    refine wpAnyH_take_at (i := 2) (v := ?v2b) rfl (by kernel_rfl) (by kernel_rfl) (by kernel_rfl) (fun _ _ _ h => h) (Or.inl ⟨by rfl, ?y2b⟩) hHeld ?r2b
    case y2b => (intro w hSw; (try dsimp only at hSw); go_simp; first | done | with_reducible rfl)
    (try simp only [Act.put, List.setIfInBounds_toArray, List.set_cons_zero, List.set_cons_succ])
    refine wpAnyH_take_at (i := 3) (v := ?v3b) rfl (by kernel_rfl) (by kernel_rfl) (by kernel_rfl) (fun _ _ _ h => h) (Or.inl ⟨by rfl, ?y3b⟩) hHeld ?r3b
    case y3b => (intro w hSw; (try dsimp only at hSw); go_simp; first | done | with_reducible rfl)
    (try simp only [Act.put, List.setIfInBounds_toArray, List.set_cons_zero, List.set_cons_succ])
    refine wpAnyH_take_at (i := 4) (v := ?v4b) rfl (by kernel_rfl) (by kernel_rfl) (by kernel_rfl) (fun _ _ _ h => h) (Or.inl ⟨by rfl, ?y4b⟩) hHeld ?r4b
    case y4b => (intro w hSw; (try dsimp only at hSw); go_simp; first | done | with_reducible rfl)
    (try simp only [Act.put, List.setIfInBounds_toArray, List.set_cons_zero, List.set_cons_succ])
    refine wpAnyH_one (i := 5) (by kernel_rfl) rfl (fun KK hK => ?_)
    go_simp
    refine HIX.out.mono ?_
    rintro e wC ⟨x, rfl, hx⟩
    go_simp
    refine hK.out _ _ ?s5b (fun hHeld => ?_)
    case s5b => exact HS.out _ ((HKA.out.trans ((Keeps.refl _ _).drew)).trans hx.out.2)
    clear hK KK
    (try simp only [Act.put, List.setIfInBounds_toArray, List.set_cons_zero, List.set_cons_succ])
    refine wpAnyH_take_at (i := 6) (v := ?v6b) rfl (by kernel_rfl) (by kernel_rfl) (by kernel_rfl) (fun _ _ _ h => h) (Or.inl ⟨by rfl, ?y6b⟩) hHeld ?r6b
    case y6b => (intro w hSw; (try dsimp only at hSw); go_simp; first | done | with_reducible rfl)
    (try simp only [Act.put, List.setIfInBounds_toArray, List.set_cons_zero, List.set_cons_succ])
    refine wpAnyH_done (by kernel_rfl) ?_ _
    refine NoPanic.normal ?_
    have hkC : Keeps (fun _ => False) w1 wC := (HKA.out.trans ((Keeps.refl _ _).drew)).trans hx.out.2
    obtain ⟨i, hxi, hri⟩ : ∃ i : Nat, x = i ∧ rs[i]? = some r := by
      rcases hx.out.1 with ⟨_, h2⟩ | h2
      · exact absurd (of_decide_eq_true HCB.out) h2
      · exact h2
    subst hxi
    have hin : i < n := by
      rcases Nat.lt_or_ge i rs.length with h | h
      · rw [HNN.out] at h; exact h
      · rw [List.getElem?_eq_none h] at hri; cases hri
    obtain ⟨m, rfl⟩ : ∃ m, n = m + 1 := ⟨n - 1, by omega⟩
    have HRI := Lib.hid hri
    have hwi : IntKind.i64.wrap ((i : Int) + 1) = (i : Int) + 1 := IntWalk.i64_in _ (by omega)
    have hkWC : Keeps (fun _ => False) W wC := HK1.out.trans hkC
    have hLC := HLM.out.quiet hkWC
    obtain ⟨hlx, ⟨hv0, hn0⟩ | ⟨g, o, cap, cur, hvs, hh, hle, hmx, hsz0, ht⟩⟩ := hLC.row
    · rw [HNN.out] at hn0; omega
    rw [HNN.out] at hvs hle
    simp only [Value.slice.injEq] at hvs
    obtain ⟨rfl, -, rfl⟩ := hvs
    have hgk : lvFp lb fb bw rb (P * K) (.slice (some ⟨g, o, none⟩) (m + 1) cv) g := .inr (.inr rfl)
    have hgne : g ≠ lb := fun e => HLM.out.vl (by rw [← e]; rfl)
    have HDE := Lib.hid (del_any hh HNN.out (by omega : i ≤ m) hle (by omega) hsz0 ht)
    have HDR := Lib.hid (del_row (W := wC.drew) hh HNN.out (by omega : i ≤ m) hle hmx hsz0 ht)
    obtain ⟨wD, hwD⟩ : ∃ wD, (wC.drew.setCells g (o + i * 6) (rlCells (rs.drop (i + 1)))).setCells g (o + m * 6) zeroL = wD := ⟨_, rfl⟩
    rw [hwD] at HDE HDR
    have hkD : Keeps (fun k => k = g) wC wD := by
      rw [← hwD]
      exact Keeps.setCells (S := fun x => x = g) g (fun _ => rfl) _ _ _ (Keeps.setCells (S := fun x => x = g) g (fun _ => rfl) _ _ _ ((Keeps.refl _ _).drew))
    have hobD : wD.heap[lb]? = some (lvObj fb (.slice (some ⟨g, o, none⟩) (m + 1) cv) P K) := (hkD.block _ (lt_of_heap hLC.obj) (fun e => hgne e.symm)).trans hLC.obj
    have hfamD : FamMem wD fb bw rb (P * K) P In tot := hLC.fam.keeps hkD (fun k hf e => HLM.out.vf k (by rw [e]; rfl) hf)
    unfold lvObj at hobD
    have d0 : wD.cell? ⟨lb, 1, none⟩ = some (.slice (some ⟨g, o, none⟩) (m + 1) cv) := by rw [cell_of_heap hobD]; rfl
    have d1 : wD.frozen? ⟨lb, 1, none⟩ = false := free_of_heap hobD 1
    obtain ⟨wE, hwE⟩ : ∃ wE, wD.setCell ⟨lb, 1, none⟩ (.slice (some ⟨g, o, none⟩) m cv) = wE := ⟨_, rfl⟩
    have hkE : Keeps (fun k => k = lb) wD wE := by rw [← hwE]; exact Keeps.setCell (S := fun k => k = lb) (Keeps.refl _ wD) (p := ⟨lb, 1, none⟩) (fun _ => rfl) _
    have hobE : wE.heap[lb]? = some (lvObj fb (.slice (some ⟨g, o, none⟩) m cv) P K) := by rw [← hwE, heap_set hobD]; rfl
    have hfamE : FamMem wE fb bw rb (P * K) P In tot := hfamD.keeps hkE (fun k hf e => HLM.out.lf (e ▸ hf))
    have hrowE : TailRow wE 29 6 (.slice (some ⟨g, o, none⟩) m cv) (rs.eraseIdx i).length (rlCells (rs.eraseIdx i)) := TailRow.keeps HDR.out hkE (fun k e e2 => by simp only [Value.ownBlock, Option.some.injEq] at e; omega)
    have hkWE : Keeps (lvFp lb fb bw rb (P * K) (.slice (some ⟨g, o, none⟩) (m + 1) cv)) W wE := by
      have a1 : Keeps (lvFp lb fb bw rb (P * K) (.slice (some ⟨g, o, none⟩) (m + 1) cv)) W wC := hkWC.mono (fun _ _ x => x.elim)
      have a2 : Keeps (lvFp lb fb bw rb (P * K) (.slice (some ⟨g, o, none⟩) (m + 1) cv)) wC wD := hkD.mono (fun k _ e => by rw [e]; exact hgk)
      have a3 : Keeps (lvFp lb fb bw rb (P * K) (.slice (some ⟨g, o, none⟩) (m + 1) cv)) wD wE := hkE.mono (fun k _ e => .inl e)
      exact (a1.trans a2).trans a3
    have hTE : TabIn wE := HTW.out.keeps hkWE (fun hf => by have := HLM.out.ge _ hf; omega)
    have HOE := Lib.hid hobE
    have HFE := Lib.hid hfamE
    have HRE := Lib.hid hrowE
    have HKE := Lib.hid hkWE
    have HTE := Lib.hid hTE
    have hc1 := (HS.out wC hkC).1
    clear hHeld H1 HIX hx hkC hri hh ht hsz0 hlx hLC hkWC hkD hobD hfamD hkE hobE hfamE hrowE hTE hkWE HS HKA HDR hgk
    go_upto_region 5 with (go_at_call 28; refine HDE.out.mono ?_; rintro e w' ⟨rfl, rfl⟩)
    have hrl : (rs.eraseIdx i).length = m := by rw [List.length_eraseIdx, if_pos (by rw [HNN.out]; omega), HNN.out]; omega
    obtain ⟨rs', hrs⟩ : ∃ rs', rs.eraseIdx i = rs' := ⟨_, rfl⟩
    rw [hrs] at hrl HRE
    have HRS := Lib.hid hrs
    have hsub : ∀ x ∈ rs', x ∈ rs := fun x hx => by rw [← hrs] at hx; exact List.mem_of_mem_eraseIdx hx
    have hrt : ∀ x ∈ rs', rightB P K x = true := fun x hx => HLM.out.right x (hsub x hx)
    have hnd' : rs'.Nodup := by rw [← hrs]; exact HND.out.eraseIdx i
    have hflt : rs'.filter (fun x => rightB P K x) = rs' := List.filter_eq_self.2 hrt
    have hPl := HLM.out.hP
    have hKl := HLM.out.hK
    have hWP : Within (P : Int) 64 P := by unfold Within; omega
    have hWK : Within (K : Int) 64 K := by unfold Within; omega
    obtain ⟨ae, ce, hve, hle2, _, hRR⟩ := TailRow.rules HRE.out
    simp only [Value.slice.injEq] at hve
    obtain ⟨rfl, -, rfl⟩ := hve
    have kdE : Keeps (fun _ => False) wE wE.drew := (Keeps.refl _ _).drew
    have hEV := seval_spec (P : Int) (K : Int) P K hWP hWK rs' (by omega) (some ⟨g, o, none⟩) cv wE.drew (hRR.keeps (kdE.below (Nat.le_refl _) (fun _ _ x => x)) (fun _ _ _ h => h)) hle2 (HTE.out.keeps kdE (fun x => x))
    rw [hrl] at hEV
    have HEV := Lib.hid hEV
    have hS6 : ∀ w', Keeps (fun _ => False) wE w' → (w'.cell? ⟨lb, 1, none⟩ = some (.slice (some ⟨g, o, none⟩) m cv) ∧ w'.cell? ⟨lb, 2, none⟩ = some (.int .i64 (P : Int)) ∧ w'.cell? ⟨lb, 3, none⟩ = some (.int .i64 (K : Int))) := fun w' hk => by
      have hob := (hk.block _ (lt_of_heap HOE.out) (fun x => x)).trans HOE.out
      unfold lvObj at hob
      refine ⟨?_, ?_, ?_⟩ <;> (rw [cell_of_heap hob]; rfl)
    have HS6 := Lib.hid hS6
    have H6 := hS6 wE.drew kdE
    have hobE0 := HOE.out
    unfold lvObj at hobE0
    have e0 : wE.cell? ⟨lb, 0, none⟩ = some (.pointer (some ⟨fb, 0, none⟩)) := by rw [cell_of_heap hobE0]; rfl
    have hgb : g < wE.heap.size ∧ z ≤ g := by
      refine ⟨?_, HLM.out.zv g rfl⟩
      obtain ⟨_, hx⟩ := TailRow.lt HRE.out g rfl
      exact lt_of_heap hx
    have hszE : W.heap.size ≤ wE.heap.size := HKE.out.size
    clear hEV hS6 hobE0 hRR kdE hc1 d0 d1 HDE hwi hWP hWK hle2
    go_upto_region 6 with fail
    clear e0
    refine wp_region_noPanic ?_
    refine wp_region_held_drew (S := (fun w' => (w'.cell? ⟨lb, 1, none⟩ = some (.slice (some ⟨g, o, none⟩) m cv) ∧ w'.cell? ⟨lb, 2, none⟩ = some (.int .i64 (P : Int)) ∧ w'.cell? ⟨lb, 3, none⟩ = some (.int .i64 (K : Int))))) (by kernel_rfl) H6 (fun hHeld => ?_)
    refine wpAnyH_take_at (i := 0) (v := ?v0c) rfl (by kernel_rfl) (by kernel_rfl) (by kernel_rfl) (fun _ _ _ h => h) (Or.inl ⟨by rfl, ?y0c⟩) hHeld ?r0c
    case y0c => (intro w hSw; (try dsimp only at hSw); go_simp; first | done | with_reducible rfl)
    (try simp only [Act.put, List.setIfInBounds_toArray, List.set_cons_zero, List.set_cons_succ])
    refine wpAnyH_take_at (i := 1) (v := ?v1c) rfl (by kernel_rfl) (by kernel_rfl) (by kernel_rfl) (fun _ _ _ h => h) (Or.inl ⟨by rfl, ?y1c⟩) hHeld ?r1c
    case y1c => (intro w hSw; (try dsimp only at hSw); go_simp; first | done | with_reducible rfl)
    (try simp only [Act.put, List.setIfInBounds_toArray, List.set_cons_zero, List.set_cons_succ])
    refine wpAnyH_take_at (i := 2) (v := ?v2c) rfl (by kernel_rfl) (by kernel_rfl) (by kernel_rfl) (fun _ _ _ h => h) (Or.inl ⟨by rfl, ?y2c⟩) hHeld ?r2c
    case y2c => (intro w hSw; (try dsimp only at hSw); go_simp; first | done | with_reducible rfl)
    (try simp only [Act.put, List.setIfInBounds_toArray, List.set_cons_zero, List.set_cons_succ])
    refine wpAnyH_take_at (i := 3) (v := ?v3c) rfl (by kernel_rfl) (by kernel_rfl) (by kernel_rfl) (fun _ _ _ h => h) (Or.inl ⟨by rfl, ?y3c⟩) hHeld ?r3c
    case y3c => (intro w hSw; (try dsimp only at hSw); go_simp; first | done | with_reducible rfl)
    (try simp only [Act.put, List.setIfInBounds_toArray, List.set_cons_zero, List.set_cons_succ])
    refine wpAnyH_take_at (i := 4) (v := ?v4c) rfl (by kernel_rfl) (by kernel_rfl) (by kernel_rfl) (fun _ _ _ h => h) (Or.inl ⟨by rfl, ?y4c⟩) hHeld ?r4c
    case y4c => (intro w hSw; (try dsimp only at hSw); go_simp; first | done | with_reducible rfl)
    (try simp only [Act.put, List.setIfInBounds_toArray, List.set_cons_zero, List.set_cons_succ])
    refine wpAnyH_take_at (i := 5) (v := ?v5c) rfl (by kernel_rfl) (by kernel_rfl) (by kernel_rfl) (fun _ _ _ h => h) (Or.inl ⟨by rfl, ?y5c⟩) hHeld ?r5c
    case y5c => (intro w hSw; (try dsimp only at hSw); go_simp; first | done | with_reducible rfl)
    (try simp only [Act.put, List.setIfInBounds_toArray, List.set_cons_zero, List.set_cons_succ])
    refine wpAnyH_take_at (i := 6) (v := ?v6c) rfl (by kernel_rfl) (by kernel_rfl) (by kernel_rfl) (fun _ _ _ h => h) (Or.inl ⟨by rfl, ?y6c⟩) hHeld ?r6c
    case y6c => (intro w hSw; (try dsimp only at hSw); go_simp; first | done | with_reducible rfl)
    (try simp only [Act.put, List.setIfInBounds_toArray, List.set_cons_zero, List.set_cons_succ])
    refine wpAnyH_take_at (i := 7) (v := ?v7c) rfl (by kernel_rfl) (by kernel_rfl) (by kernel_rfl) (fun _ _ _ h => h) (Or.inl ⟨by rfl, ?y7c⟩) hHeld ?r7c
    case y7c => (intro w hSw; (try dsimp only at hSw); go_simp; first | done | with_reducible rfl)
    (try simp only [Act.put, List.setIfInBounds_toArray, List.set_cons_zero, List.set_cons_succ])
    refine wpAnyH_take_at (i := 8) (v := ?v8c) rfl (by kernel_rfl) (by kernel_rfl) (by kernel_rfl) (fun _ _ _ h => h) (Or.inl ⟨by rfl, ?y8c⟩) hHeld ?r8c
    case y8c => (intro w hSw; (try dsimp only at hSw); go_simp; first | done | with_reducible rfl)
    (try simp only [Act.put, List.setIfInBounds_toArray, List.set_cons_zero, List.set_cons_succ])
    refine wpAnyH_take_at (i := 9) (v := ?v9c) rfl (by kernel_rfl) (by kernel_rfl) (by kernel_rfl) (fun _ _ _ h => h) (Or.inl ⟨by rfl, ?y9c⟩) hHeld ?r9c
    case y9c => (intro w hSw; (try dsimp only at hSw); go_simp; first | done | with_reducible rfl)
    (try simp only [Act.put, List.setIfInBounds_toArray, List.set_cons_zero, List.set_cons_succ])
    refine wpAnyH_take_at (i := 10) (v := ?v10c) rfl (by kernel_rfl) (by kernel_rfl) (by kernel_rfl) (fun _ _ _ h => h) (Or.inl ⟨by rfl, ?y10c⟩) hHeld ?r10c
    case y10c => (intro w hSw; (try dsimp only at hSw); go_simp; first | done | with_reducible rfl)
    (try simp only [Act.put, List.setIfInBounds_toArray, List.set_cons_zero, List.set_cons_succ])
    refine wpAnyH_take_at (i := 11) (v := ?v11c) rfl (by kernel_rfl) (by kernel_rfl) (by kernel_rfl) (fun _ _ _ h => h) (Or.inl ⟨by rfl, ?y11c⟩) hHeld ?r11c
    case y11c => (intro w hSw; (try dsimp only at hSw); go_simp; first | done | with_reducible rfl)
    (try simp only [Act.put, List.setIfInBounds_toArray, List.set_cons_zero, List.set_cons_succ])
    refine wpAnyH_take_at (i := 12) (v := ?v12c) rfl (by kernel_rfl) (by kernel_rfl) (by kernel_rfl) (fun _ _ _ h => h) (Or.inl ⟨by rfl, ?y12c⟩) hHeld ?r12c
    case y12c => (intro w hSw; (try dsimp only at hSw); go_simp; first | done | with_reducible rfl)
    (try simp only [Act.put, List.setIfInBounds_toArray, List.set_cons_zero, List.set_cons_succ])
    refine wpAnyH_one (i := 13) (by kernel_rfl) rfl (fun KK hK => ?_)
    go_simp
    refine HEV.out.mono ?_
    rintro e wM ⟨mo, rfl, hM⟩
    go_simp
    obtain ⟨fb2, bw2, rb2, In2, tot2, steps2, hMA⟩ := hM.out
    have hkM : Keeps (fun _ => False) wE wM := ((Keeps.refl _ _).drew).trans (Keeps.of_below (S := fun _ => False) hMA.base (Nat.le_refl _))
    have cM := hMA.cells.1
    have hobM := (hkM.block _ (lt_of_heap HOE.out) (fun x => x)).trans HOE.out
    have fM : wM.frozen? ⟨lb, 0, none⟩ = false := by unfold lvObj at hobM; exact free_of_heap hobM 0
    have h0M : wM.cell? ⟨lb, 0, none⟩ = some (.pointer (some ⟨fb, 0, none⟩)) := by unfold lvObj at hobM; rw [cell_of_heap hobM]; rfl
    refine hK.out _ _ ?s13c (fun hHeld => ?_)
    case s13c => exact HS6.out _ hkM
    clear hK KK
    (try simp only [Act.put, List.setIfInBounds_toArray, List.set_cons_zero, List.set_cons_succ])
    refine wpAnyH_take_at (i := 14) (v := ?v14c) rfl (by kernel_rfl) (by kernel_rfl) (by kernel_rfl) (fun _ _ _ h => h) (Or.inl ⟨by rfl, ?y14c⟩) hHeld ?r14c
    case y14c => (intro w hSw; (try dsimp only at hSw); go_simp; first | done | with_reducible rfl)
    (try simp only [Act.put, List.setIfInBounds_toArray, List.set_cons_zero, List.set_cons_succ])
    refine wpAnyH_take_at (i := 15) (v := ?v15c) rfl (by kernel_rfl) (by kernel_rfl) (by kernel_rfl) (fun _ _ _ h => h) (Or.inl ⟨by rfl, ?y15c⟩) hHeld ?r15c
    case y15c => (intro w hSw; (try dsimp only at hSw); go_simp; first | done | with_reducible rfl)
    (try simp only [Act.put, List.setIfInBounds_toArray, List.set_cons_zero, List.set_cons_succ])
    refine wpAnyH_one (i := 16) (by kernel_rfl) rfl (fun KK hK => ?_)
    go_simp
    refine hK.out _ _ ?s16c (fun hHeld => ?_)
    case s16c => exact HS6.out _ hkM
    clear hK KK
    (try simp only [Act.put, List.setIfInBounds_toArray, List.set_cons_zero, List.set_cons_succ])
    refine wpAnyH_take_at (i := 17) (v := ?v17c) rfl (by kernel_rfl) (by kernel_rfl) (by kernel_rfl) (fun _ _ _ h => h) (Or.inl ⟨by rfl, ?y17c⟩) hHeld ?r17c
    case y17c => (intro w hSw; (try dsimp only at hSw); go_simp; first | done | with_reducible rfl)
    (try simp only [Act.put, List.setIfInBounds_toArray, List.set_cons_zero, List.set_cons_succ])
    refine wpAnyH_take_at (i := 18) (v := ?v18c) rfl (by kernel_rfl) (by kernel_rfl) (by kernel_rfl) (fun _ _ _ h => h) (Or.inl ⟨by rfl, ?y18c⟩) hHeld ?r18c
    case y18c => (intro w hSw; (try dsimp only at hSw); go_simp; first | done | with_reducible rfl)
    (try simp only [Act.put, List.setIfInBounds_toArray, List.set_cons_zero, List.set_cons_succ])
    have HF6 := Lib.hid (drop_new HLM.out HFP.out HIn.out hzW hz HKE.out HOE.out HFE.out HRE.out HTE.out hMA hkM hnd' hrt hflt HRI.out hrs)
    refine wpAnyH_one (i := 19) (by kernel_rfl) rfl (fun KK hK => ?_)
    go_simp
    refine hK.out _ _ ?s19c (fun hHeld => ?_)
    case s19c => exact HF6.out.2.2.2.2
    clear hK KK hMA hkM hobM
    (try simp only [Act.put, List.setIfInBounds_toArray, List.set_cons_zero, List.set_cons_succ])
    obtain ⟨wF, hwF⟩ : ∃ wF, wM.setCell ⟨lb, 0, none⟩ (.pointer (some ⟨fb2, 0, none⟩)) = wF := ⟨_, rfl⟩
    simp only [hwF] at HF6 ⊢
    refine wpAnyH_done (by kernel_rfl) ?_ _
    refine NoPanic.normal ?_
    have HTWO : Hid (Two wF lb fb bw rb (P * K) P In tot fb2 bw2 rb2 In2 tot2) := HF6.out.1
    have hszF : W.heap.size ≤ wF.heap.size := HF6.out.2.1
    have HFIN : Hid (∀ w' u ans, Keeps (fun _ => False) wF w' → ReadsP w' u ans → (∀ k, u.ownBlock = some k → W.heap.size ≤ k) → Diff P K rs' rs ans → DropPost2 z W lb P K rs Fp r (.returned (.tuple #[u, .int .i64 0])) w') := HF6.out.2.2.1
    have hDF := HF6.out.2.2.2.1
    have HDF := Lib.hid hDF
    clear hHeld H6 HS6 HEV HF6 hwF cM h0M fM hszE hgb hDF hM HLM HFP HIn HND HK1 HTW HCB HNN HRI HOE HFE HRE HKE HTE hrl hsub hrt hnd' hflt hrs HRS hgne hin hlb hn hcv hle hmx hxb hz hzW
    obtain ⟨N, hN⟩ : ∃ N, P * K = N := ⟨_, rfl⟩
    have HNE := Lib.hid hN
    have hN4 : N ≤ 64 * 64 := by rw [← hN]; exact Nat.mul_le_mul hPl hKl
    rw [hN] at HTWO
    have HRO : Hid (Calls Tryd.prog 30 #[.pointer (some ⟨fb, 0, none⟩)] wF fun e w' => e = .returned (.int .i64 N) ∧ wF = w') := frows_spec HTWO.out.old
    have HOWN0 : Hid (OwnP wF.heap.size wF (.slice none 0 0) (diffTo In In2 P 0)) := World.ownsRow_nil _ _ _ _
    have hcFA : wF.cell? ⟨lb, 0, none⟩ = some (.pointer (some ⟨fb2, 0, none⟩)) := HTWO.out.cell
    clear hN
    go_wp2_with (go_at_call 30; refine HRO.out.mono ?_; rintro e w' ⟨rfl, rfl⟩)
    clear HRO hcFA
    go_loopg [4, 64] N (fun g ov t wy => ∃ i, i ≤ N ∧ g = N - i ∧ t = .int .i64 i ∧ Hid (OwnP wF.heap.size wy ov (diffTo In In2 P i) ∧ Keeps (fun _ => False) wF wy))
    case atStart => exact ⟨0, Nat.zero_le _, rfl, rfl, HOWN0.out, Keeps.refl _ _⟩
    case round =>
      clear HOWN0
      obtain ⟨i, hi, rfl, rfl, HI⟩ := hrel
      by_cases hlt : i < N
      · have hiI : (i : Int) < (N : Int) := by omega
        have hwi : IntKind.i64.wrap ((i : Int) + 1) = (i : Int) + 1 := IntWalk.i64_in _ (by omega)
        have HTI := Lib.hid (HTWO.out.quiet HI.out.2)
        obtain ⟨L, hL⟩ : ∃ L, listTo (In i) P = L := ⟨_, rfl⟩
        have HLD := Lib.hid hL
        obtain ⟨ln, hln⟩ : ∃ ln, L.length = ln := ⟨_, rfl⟩
        have HLN := Lib.hid hln
        have hl64 : ln ≤ 64 := by rw [← hln, ← hL, listTo_len]; exact Nat.le_trans (cnt_le _ _) hPl
        have HLI : Hid (Calls Tryd.prog 31 #[.pointer (some ⟨fb, 0, none⟩), .int .i64 i] wr fun e W' => ∃ ao cap, e = .returned (.slice ao ln cap) ∧ Hid (LsR W' (.slice ao ln cap) L ∧ Keeps (fun _ => False) wr W')) := by
          refine (flist_spec HTI.out.old HTI.out.tab (i : Int)).mono ?_
          rintro e W' ⟨u, rfl, hown, hb⟩
          have hk := Keeps.of_below (S := fun _ => False) hb (Nat.le_refl _)
          have he : rowP N In (i : Int) = In i := by
            unfold rowP
            rw [if_pos ⟨by omega, by omega⟩]
            simp
          rw [he, hL] at hown
          have hLs : LsR W' u L := ⟨_, hown⟩
          obtain ⟨ao, cap, hu, _⟩ := hLs.reads
          rw [hln] at hu
          rw [hu] at hLs ⊢
          exact ⟨ao, cap, rfl, hLs, hk⟩
        clear hL hln
        go_wp2_with (go_at_call 31; refine HLI.out.mono ?_; rintro e w4 ⟨ao, cap, rfl, hLs⟩)
        have HO4 : Hid (OwnP wF.heap.size w4 u4 (diffTo In In2 P i ++ diffRow In2 i (L.take 0)) ∧ Keeps (fun _ => False) wF w4 ∧ LsR w4 (.slice ao ln cap) L) := by
          refine ⟨?_, HI.out.2.trans hLs.out.2, hLs.out.1⟩
          rw [show diffRow In2 i (L.take 0) = [] from rfl, List.append_nil]
          exact HI.out.1.keeps hLs.out.2 (fun _ _ x => x)
        clear HLI HI HTI hLs
        go_loopg [4, 71] ln (fun g ov t wy => ∃ j, j ≤ ln ∧ g = ln - j ∧ t = .int .i64 j ∧ Hid (OwnP wF.heap.size wy ov (diffTo In In2 P i ++ diffRow In2 i (L.take j)) ∧ Keeps (fun _ => False) wF wy ∧ LsR wy (.slice ao ln cap) L))
        case atStart => exact ⟨0, Nat.zero_le _, rfl, rfl, HO4⟩
        case round =>
          clear HO4
          obtain ⟨j, hj, rfl, rfl, HI⟩ := hrel
          by_cases hlt2 : j < ln
          · have hjI : (j : Int) < (ln : Int) := by omega
            have hwj : IntKind.i64.wrap ((j : Int) + 1) = (j : Int) + 1 := IntWalk.i64_in _ (by omega)
            obtain ⟨c, hc⟩ : ∃ c, L[j]? = some c := ⟨_, List.getElem?_eq_getElem (by rw [HLN.out]; exact hlt2)⟩
            obtain ⟨au', cu', he, _, _, hrd⟩ := HI.out.2.2.reads
            simp only [Value.slice.injEq] at he
            obtain ⟨rfl, -, rfl⟩ := he
            obtain ⟨gu, rfl, hgu, hcc⟩ := hrd (by rw [HLN.out]; omega)
            have cU := hcc j c hc
            have hcP : c < P := by
              have := List.mem_of_getElem? hc
              rw [← HLD.out, listTo_iff] at this
              exact this.1
            have HTS := Lib.hid (show diffTo In In2 P i ++ diffRow In2 i (L.take (j + 1)) = diffTo In In2 P i ++ diffRow In2 i (L.take j) ++ (if In2 i c = true then [] else [(i, c)]) by rw [take_snoc hc, diffRow_snoc, List.append_assoc])
            have hTJ := HTWO.out.quiet HI.out.2.1
            have cF := hTJ.cell
            obtain ⟨bv, hbv⟩ : ∃ bv, In2 i c = bv := ⟨_, rfl⟩
            have HHA : Hid (Calls Tryd.prog 32 #[.pointer (some ⟨fb2, 0, none⟩), .int .i64 i, .int .i64 c] wr fun e W' => e = .returned (.bool bv) ∧ wr = W') := by
              refine (fhas_spec hTJ.new (i : Int) (c : Int) (by omega) (by omega)).mono ?_
              rintro e W' ⟨rfl, rfl⟩
              exact ⟨by rw [hasB_in hlt hcP, hbv], rfl⟩
            rw [hbv] at HTS
            clear hbv hcc hrd hTJ hc
            cases bv with
            | true =>
              have HN : Hid (OwnP wF.heap.size wr u4 (diffTo In In2 P i ++ diffRow In2 i (L.take (j + 1))) ∧ Keeps (fun _ => False) wF wr ∧ LsR wr (.slice (some ⟨gu, 0, none⟩) ln cap) L) := by
                rw [HTS.out, if_pos rfl, List.append_nil]
                exact HI.out
              clear HI HTS
              go_wp2_with (go_at_call 32; refine HHA.out.mono ?_; rintro e W' ⟨rfl, rfl⟩)
              go_roundg (ln - (j + 1))
              case measure => omega
              case rel => exact ⟨j + 1, by omega, rfl, by go_num, HN⟩
            | false =>
              have hHI := HI.out.1
              obtain ⟨ol, hol⟩ : ∃ ol, (diffTo In In2 P i ++ diffRow In2 i (L.take j)).length = ol := ⟨_, rfl⟩
              have hol9 : ol ≤ 300000 := by
                rw [← hol, List.length_append]
                have a1 := diffTo_len In In2 P i
                have a2 := diffRow_len In In2 P i (L.take j)
                have a3 : i * P ≤ 4096 * 64 := Nat.mul_le_mul (by omega) hPl
                have a4 : (L.take j).length ≤ 64 := by rw [List.length_take]; omega
                omega
              have HOW : Hid (wr.ownsRow wF.heap.size 22 2 u4 ol (pcs (diffTo In In2 P i ++ diffRow In2 i (L.take j)))) := by
                have := hHI
                unfold OwnP at this
                rw [hol] at this
                exact this
              have HOL := Lib.hid hol
              have HII := Lib.hid HI.out.2
              have hsz : wF.heap.size ≤ wr.heap.size := HI.out.2.1.size
              clear hHI hol HI
              go_upto_region 14 with (go_at_call 32; refine HHA.out.mono ?_; rintro e W' ⟨rfl, rfl⟩)
              clear cF HHA cU
              go_wp2_with (at_builtin; refine wpList_append_own _ rfl _ _ 32 rfl wF.heap.size 22 i0 _ 2 16 Tryd.underlying32 hi0 hz0 hz1 hz2 rfl (by decide) _ _ _ rfl (HOW.out.alloc _) ⟨wr.heap.size, 0, none⟩ 1 1 [.int .i64 (i : Int), .int .i64 (c : Int)] rfl rfl (cells_new wr _ _) (by intro u hu; simp only [List.mem_cons, List.not_mem_nil, or_false] at hu; rcases hu with rfl | rfl <;> rfl) (by unfold maxLen; omega) (by omega) (by simp; omega) ?_)
              intro v2 w6 hown2 hgrow _
              obtain ⟨ao2, cap2, hv2, _, _, _, _⟩ := own_form hown2
              subst hv2
              have k1 : Keeps (fun _ => False) wr (wr.alloc (.cells #[.int .i64 (i : Int), .int .i64 (c : Int)] 22)) := (Keeps.refl _ _).alloc _
              have k2 := keeps_grown hgrow
              have hob := own_block HOW.out
              have HN : Hid (OwnP wF.heap.size w6 (.slice ao2 (ol + 1) cap2) (diffTo In In2 P i ++ diffRow In2 i (L.take (j + 1))) ∧ Keeps (fun _ => False) wF w6 ∧ LsR w6 (.slice (some ⟨gu, 0, none⟩) ln cap) L) := by
                refine ⟨?_, (HII.out.1.trans k1).trans_new k2 (fun q hq e => by have := hob _ e; omega), ?_⟩
                · rw [HTS.out, if_neg (by decide)]
                  show w6.ownsRow _ _ _ _ (_ ++ [(i, c)]).length (pcs (_ ++ [(i, c)]))
                  rw [pcs_append, List.length_append, HOL.out]
                  exact hown2
                · refine (HII.out.2.quiet k1).keep k2 (fun k cur hS hc => ?_)
                  obtain ⟨cur2, hc2⟩ := own_block_type (HOW.out.alloc (.cells #[.int .i64 (i : Int), .int .i64 (c : Int)] 22)) hS
                  rw [hc2] at hc
                  simp only [Option.some.injEq, Obj.cells.injEq] at hc
                  exact absurd hc.2.1 (by decide)
              clear HOW HOL HII HTS hown2 hgrow k1 k2 hob hsz
              go_wp2_with fail
              go_roundg (ln - (j + 1))
              case measure => omega
              case rel => exact ⟨j + 1, by omega, rfl, by go_num, HN⟩
          · have hjE : j = ln := by omega
            have hjI : ¬ (j : Int) < (ln : Int) := by omega
            have HN : Hid (OwnP wF.heap.size wr u4 (diffTo In In2 P (i + 1)) ∧ Keeps (fun _ => False) wF wr) := by
              have h1 := HI.out
              rw [List.take_of_length_le (by rw [HLN.out]; omega), ← HLD.out] at h1
              exact ⟨h1.1, h1.2.1⟩
            clear HI
            go_wp2_with fail
            go_roundg (N - (i + 1))
            case measure => omega
            case rel => exact ⟨i + 1, by omega, rfl, by go_num, HN⟩
      · have hiE : i = N := by omega
        have hiI : ¬ (i : Int) < (N : Int) := by omega
        have HN : Hid (DropPost2 z W lb P K rs Fp r (.returned (.tuple #[u4, .int .i64 0])) wr) := by
          have h1 := HI.out
          rw [hiE] at h1
          refine HFIN.out wr u4 _ h1.2 h1.1.reads (fun k e => Nat.le_trans hszF (own_block h1.1 k e)) ?_
          rw [← HNE.out]
          exact HDF.out
        clear HI HFIN HDF HTWO
        go_wp2_with fail
        go_ret2
        exact HN.out
end Go.Proofs.YtaabmkebbnkonaaDoor
