/-
  What is asked of a table of nodes: Len, Vars, Spent, Is, Get, Var.
-/
import Derived.Test.YtloidoekmicloaaNodeTab
set_option linter.unusedVariables false
set_option linter.unusedSimpArgs false
namespace Go.Proofs.Ytloidoekmicloaa
open Go.ChangeShapes Go.WideShapes Go.ChangeAt Go.RowKit Go.Deep NodePlain

section
variable {w : World} {b bp M : Nat} {vn : Value} {V B : Int} {L : Nat → Nd} {n : Nat} {P : Nat → Nat} {s : Bool}

set_option maxRecDepth 10000 in
theorem tlen_spec (h : TabMem w b bp M vn V B L n P s) (hn : n ≤ 1000000000000) :
    Calls Try.prog 71 #[.pointer (some ⟨b, 0, none⟩)] w fun e w' => e = .returned (.int .i64 n) ∧ w = w' := by
  obtain ⟨ao, cap, rfl, _, _, _⟩ := h.row
  have c2 : w.cell? ⟨b, 2, none⟩ = some (.slice ao n cap) := by rw [cell_of_heap h.obj]; rfl
  go_enter Try.func71, Try.ntmps71
  go_wp2
  go_ret
  exact ⟨rfl, rfl⟩
set_option maxRecDepth 10000 in
theorem tlen_nil (w : World) : Calls Try.prog 71 #[.pointer none] w fun e w' => e = .returned (.int .i64 0) ∧ w = w' := by
  go_enter Try.func71, Try.ntmps71
  go_wp2
  go_ret
  exact ⟨rfl, rfl⟩
set_option maxRecDepth 10000 in
theorem tvars_spec (h : TabMem w b bp M vn V B L n P s) :
    Calls Try.prog 62 #[.pointer (some ⟨b, 0, none⟩)] w fun e w' => e = .returned (.int .i64 V) ∧ w = w' := by
  have c0 : w.cell? ⟨b, 0, none⟩ = some (.int .i64 V) := by rw [cell_of_heap h.obj]; rfl
  go_enter Try.func62, Try.ntmps62
  go_wp2
  go_ret
  exact ⟨rfl, rfl⟩
set_option maxRecDepth 10000 in
theorem tvars_nil (w : World) : Calls Try.prog 62 #[.pointer none] w fun e w' => e = .returned (.int .i64 0) ∧ w = w' := by
  go_enter Try.func62, Try.ntmps62
  go_wp2
  go_ret
  exact ⟨rfl, rfl⟩
set_option maxRecDepth 10000 in
theorem tspent_spec (h : TabMem w b bp M vn V B L n P s) :
    Calls Try.prog 58 #[.pointer (some ⟨b, 0, none⟩)] w fun e w' => e = .returned (.bool s) ∧ w = w' := by
  have c4 : w.cell? ⟨b, 4, none⟩ = some (.bool s) := by rw [cell_of_heap h.obj]; rfl
  go_enter Try.func58, Try.ntmps58
  go_wp2
  go_ret
  exact ⟨rfl, rfl⟩
set_option maxRecDepth 10000 in
theorem tspent_nil (w : World) : Calls Try.prog 58 #[.pointer none] w fun e w' => e = .returned (.bool false) ∧ w = w' := by
  go_enter Try.func58, Try.ntmps58
  go_wp2
  go_ret
  exact ⟨rfl, rfl⟩
set_option maxRecDepth 10000 in
theorem tis_spec (h : TabMem w b bp M vn V B L n P s) (hn : n ≤ 1000000000000) (k : Int) (hk : k ≤ 9223372036854775807) :
    Calls Try.prog 52 #[.pointer (some ⟨b, 0, none⟩), .int .i64 k] w fun e w' => e = .returned (.bool (isN n k)) ∧ w = w' := by
  have L1 := tlen_spec h hn
  have HL := Lib.hid L1; clear L1
  rcases Int.lt_or_le k 0 with h0 | h0
  · have hr : isN n k = false := by simp [isN]; omega
    rw [hr]
    go_enter Try.func52, Try.ntmps52
    go_wp2
    go_ret
    exact ⟨rfl, rfl⟩
  · have hr : isN n k = decide (k < n + 2) := by simp [isN, h0]
    rw [hr]
    go_enter Try.func52, Try.ntmps52
    go_wp2_with (go_at_call 71; refine HL.out.mono ?_; rintro e w' ⟨rfl, rfl⟩)
    go_ret
    exact ⟨rfl, rfl⟩
set_option maxRecDepth 10000 in
theorem tis_nil (w : World) (k : Int) (hk : k ≤ 9223372036854775807) :
    Calls Try.prog 52 #[.pointer none, .int .i64 k] w fun e w' => e = .returned (.bool (isN 0 k)) ∧ w = w' := by
  rcases Int.lt_or_le k 0 with h0 | h0
  · have hr : isN 0 k = false := by simp [isN]; omega
    rw [hr]
    go_enter Try.func52, Try.ntmps52
    go_wp2
    go_ret
    exact ⟨rfl, rfl⟩
  · have hr : isN 0 k = decide (k < 2) := by simp [isN, h0]
    rw [hr]
    go_enter Try.func52, Try.ntmps52
    go_wp2_with (go_at_call 71; refine (tlen_nil _).mono ?_; rintro e w' ⟨rfl, rfl⟩)
    go_ret
    exact ⟨rfl, rfl⟩

/-- A node that there is, or none. -/
def getN (L : Nat → Nd) (n : Nat) (k : Int) : Option Nd := if 2 ≤ k ∧ k < n + 2 then some (L (k - 2).toNat) else none
def GetNPost (r : Option Nd) (w : World) (e : Ending) (w' : World) : Prop :=
  e = .returned (.tuple #[.agg (ndCells (r.getD (0, 0, 0))).toArray, .bool r.isSome]) ∧ Below w.heap.size w w'

set_option maxRecDepth 10000 in
set_option maxHeartbeats 800000 in
theorem tget_spec (h : TabMem w b bp M vn V B L n P s) (hn : n ≤ 1000000000000) (k : Int) (hk0 : -9223372036854775808 ≤ k) (hk : k ≤ 9223372036854775807) :
    Calls Try.prog 83 #[.pointer (some ⟨b, 0, none⟩), .int .i64 k] w (GetNPost (getN L n k) w) := by
  have HI : ∀ W, Keeps (fun _ => False) w W → Calls Try.prog 52 #[.pointer (some ⟨b, 0, none⟩), .int .i64 k] W fun e w' => e = .returned (.bool (isN n k)) ∧ W = w' := fun W hW => tis_spec (h.keeps hW (fun _ _ x => x)) hn k hk
  have HI' := Lib.hid HI; clear HI
  have lb : b < w.heap.size := lt_of_heap h.obj
  rcases Int.lt_or_le k 2 with h2 | h2
  · have hr : getN L n k = none := by unfold getN; rw [if_neg (by omega)]
    rw [hr]
    clear h
    go_enter Try.func83, Try.ntmps83
    go_wp2
    refine bodyPost_ret (v := .tuple #[.agg #[.int .i64 0, .int .i64 0, .int .i64 0], .bool false]) (by simp [results, Try.results83, go_sem]) rfl ⟨rfl, (Below.refl _ _).alloc (Nat.le_refl _) _⟩
  · by_cases hlt : k < n + 2
    · have hr : getN L n k = some (L (k - 2).toNat) := by unfold getN; rw [if_pos ⟨h2, hlt⟩]
      have hi : isN n k = true := by simp [isN]; omega
      rw [hr]
      obtain ⟨ao, cap, rfl, hle, hmx, hrow⟩ := h.row
      unfold maxLen at hmx
      obtain ⟨g, rfl, hg, hrw⟩ := hrow (by omega)
      have c2 : w.cell? ⟨b, 2, none⟩ = some (.slice (some ⟨g, 0, none⟩) n cap) := by rw [cell_of_heap h.obj]; rfl
      obtain ⟨m, rfl⟩ : ∃ m : Nat, k = m + 2 := ⟨(k - 2).toNat, by omega⟩
      obtain ⟨r0, r1, r2⟩ := hrw m (by omega)
      have e2 : ((m : Int) + 2 - 2).toNat = m := by omega
      rw [e2]
      have hmn : (m : Int) < (n : Int) := by omega
      have hsub : IntKind.i64.wrap ((m : Int) + 2 - 2) = m := (IntWalk.i64_in _ (by omega)).trans (by omega)
      obtain ⟨⟨a0, a1, a2⟩, hLi⟩ : ∃ p, p = L m := ⟨_, rfl⟩
      rw [← hLi] at r0 r1 r2 ⊢
      simp only [] at r0 r1 r2
      have hmI : (m : Int) ≤ 1000000000000 := by omega
      clear h hrow hrw hr e2 hLi hn hk hlt hmx
      go_enter Try.func83, Try.ntmps83
      go_wp2_with (go_at_call 52; refine (HI'.out _ ((Keeps.refl _ _).alloc _)).mono ?_; rintro e w' ⟨rfl, rfl⟩; rw [hi])
      refine bodyPost_ret (v := .tuple #[.agg #[.int .i64 a0, .int .i64 a1, .int .i64 a2], .bool true]) (by simp [results, Try.results83, go_sem]) rfl ⟨rfl, (Below.refl _ _).alloc (Nat.le_refl _) _⟩
    · have hr : getN L n k = none := by unfold getN; rw [if_neg (by omega)]
      have hi : isN n k = false := by simp [isN]; omega
      rw [hr]
      clear h hr
      go_enter Try.func83, Try.ntmps83
      go_wp2_with (go_at_call 52; refine (HI'.out _ ((Keeps.refl _ _).alloc _)).mono ?_; rintro e w' ⟨rfl, rfl⟩; rw [hi])
      refine bodyPost_ret (v := .tuple #[.agg #[.int .i64 0, .int .i64 0, .int .i64 0], .bool false]) (by simp [results, Try.results83, go_sem]) rfl ⟨rfl, (Below.refl _ _).alloc (Nat.le_refl _) _⟩
set_option maxRecDepth 10000 in
set_option maxHeartbeats 800000 in
theorem tget_nil (w : World) (k : Int) (hk0 : -9223372036854775808 ≤ k) (hk : k ≤ 9223372036854775807) :
    Calls Try.prog 83 #[.pointer none, .int .i64 k] w (GetNPost none w) := by
  rcases Int.lt_or_le k 2 with h2 | h2
  · go_enter Try.func83, Try.ntmps83
    go_wp2
    refine bodyPost_ret (v := .tuple #[.agg #[.int .i64 0, .int .i64 0, .int .i64 0], .bool false]) (by simp [results, Try.results83, go_sem]) rfl ⟨rfl, (Below.refl _ _).alloc (Nat.le_refl _) _⟩
  · have hi : isN 0 k = false := by simp [isN]; omega
    have HI := Lib.hid (fun W => tis_nil W k hk)
    go_enter Try.func83, Try.ntmps83
    go_wp2_with (go_at_call 52; refine (HI.out _).mono ?_; rintro e w' ⟨rfl, rfl⟩; rw [hi])
    refine bodyPost_ret (v := .tuple #[.agg #[.int .i64 0, .int .i64 0, .int .i64 0], .bool false]) (by simp [results, Try.results83, go_sem]) rfl ⟨rfl, (Below.refl _ _).alloc (Nat.le_refl _) _⟩

theorem getN_var {V : Int} {L : Nat → Nd} {n : Nat} {k : Int} : varN V L n k = match getN L n k with | some x => x.1 | none => V := by
  unfold varN getN
  split <;> rfl

set_option maxRecDepth 10000 in
set_option maxHeartbeats 800000 in
theorem tvar_spec (h : TabMem w b bp M vn V B L n P s) (hn : n ≤ 1000000000000) (k : Int) (hk0 : -9223372036854775808 ≤ k) (hk : k ≤ 9223372036854775807) :
    Calls Try.prog 68 #[.pointer (some ⟨b, 0, none⟩), .int .i64 k] w fun e w' => e = .returned (.int .i64 (varN V L n k)) ∧ Below w.heap.size w w' := by
  have hg := tget_spec h hn k hk0 hk
  have HV : ∀ W, Keeps (fun _ => False) w W → Calls Try.prog 62 #[.pointer (some ⟨b, 0, none⟩)] W fun e w' => e = .returned (.int .i64 V) ∧ W = w' := fun W hW => tvars_spec (h.keeps hW (fun _ _ x => x))
  rw [getN_var]
  have HG := Lib.hid hg; have HV' := Lib.hid HV
  clear hg HV h
  cases hr : getN L n k with
  | none =>
    rw [hr] at HG
    go_enter Try.func68, Try.ntmps68
    go_wp2_with fail
    refine HG.out.mono ?_
    rintro e w1 ⟨rfl, hb⟩
    simp only [ndCells, Option.getD_none, Option.isSome_none]
    go_wp2_with (go_at_call 62; refine (HV'.out _ ((Keeps.of_below hb (Nat.le_refl _)).alloc _)).mono ?_; rintro e w' ⟨rfl, rfl⟩)
    go_ret
    exact ⟨rfl, hb.alloc hb.size _⟩
  | some x =>
    obtain ⟨a0, a1, a2⟩ := x
    rw [hr] at HG
    go_enter Try.func68, Try.ntmps68
    go_wp2_with fail
    refine HG.out.mono ?_
    rintro e w1 ⟨rfl, hb⟩
    simp only [ndCells, Option.getD_some, Option.isSome_some]
    go_wp2
    go_ret
    exact ⟨rfl, hb.alloc hb.size _⟩
end
end Go.Proofs.Ytloidoekmicloaa
/-
  New and grow.
-/
set_option linter.unusedVariables false
set_option linter.unusedSimpArgs false
namespace Go.Proofs.Ytloidoekmicloaa
open Go.ChangeShapes Go.WideShapes Go.ChangeAt Go.RowKit Go.Deep NodePlain

def GrowPost (b : Nat) (M : Nat) (vn : Value) (V B : Int) (L : Nat → Nd) (n : Nat) (s : Bool) (w : World) (e : Ending) (w' : World) : Prop :=
  ∃ (bp' : Nat) (P' : Nat → Nat), e = .returned (.tuple #[]) ∧ TabMem w' b bp' (2 * M) vn V B L n P' s ∧ Placed (startAt (2 * M)) L n (2 * M) P' ∧ Keeps (fun k => k = b) w w' ∧ w.heap.size ≤ bp'

theorem nintInfo : (Try.prog.info? 3).map (fun i => (i.zero, i.size, i.bytes)) = some (some (.int .i64 0), 1, 8) := by kernel_rfl

theorem madeZeros (N : Nat) : madeCells (Value.int .i64 0).cells (N * 1) = placeRow (fun _ => 0) N := by
  apply Array.ext_getElem?
  intro i
  rcases Nat.lt_or_ge i N with h | h
  · rw [placeRow_get _ _ _ h]
    have := madeCells_get #[Value.int .i64 0] N i 0 (.int .i64 0) h rfl
    show (madeCells #[Value.int .i64 0] (N * 1))[i]? = _
    simpa using this
  · rw [Array.getElem?_eq_none (by simpa [size_madeCells] using h), Array.getElem?_eq_none (by simpa [placeRow] using h)]

set_option maxRecDepth 100000 in
set_option maxHeartbeats 1600000 in
theorem grow_any {w : World} {b bp M : Nat} {vn : Value} {V B : Int} {L : Nat → Nd} {n : Nat} {P : Nat → Nat} {s : Bool} (h : TabMem w b bp M vn V B L n P s) (hinj : ∀ x y, x < n → y < n → L x = L y → x = y) (hM0 : 0 < M) (hM : M ≤ 400000000000) (hn : n < 2 * M) :
    Calls Try.prog 81 #[.pointer (some ⟨b, 0, none⟩)] w (GrowPost b M vn V B L n s w) := by
  obtain ⟨i0, hi, hz0, hz1, hz2⟩ := info_parts nintInfo
  obtain ⟨ao, cap, rfl, hle, hmx, hrow⟩ := h.row
  unfold maxLen at hmx
  have c2 : w.cell? ⟨b, 2, none⟩ = some (.slice ao n cap) := by rw [cell_of_heap h.obj]; rfl
  have c3 : w.cell? ⟨b, 3, none⟩ = some (.slice (some ⟨bp, 0, none⟩) M M) := by rw [cell_of_heap h.obj]; rfl
  have hbw : b < w.heap.size := lt_of_heap h.obj
  have H := Lib.hid h; have Hrow := Lib.hid hrow; have Hinj := Lib.hid hinj
  clear h hrow hinj
  go_enter Try.func81, Try.ntmps81
  go_wp2_with (at_make; refine wpList_make_full _ rfl _ _ 27 rfl w.heap.size 3 i0 _ 1 Try.underlying27 hi hz0 hz1 .i64 .i64 _ _ (2 * M) rfl rfl (by omega) (by omega) (by rw [hz2]; omega) (by unfold maxLen; omega) (Nat.le_refl _) ?_)
  intro w1 hown hgrow
  have k1 := keeps_grown hgrow
  have e1 : w1.heap[b]? = some (tabObj V B (.slice ao n cap) bp M s) := (k1.block b hbw (by simp)).trans H.out.obj
  have f3 : w1.frozen? ⟨b, 3, none⟩ = false := free_of_heap e1 3
  have d3 : w1.cell? ⟨b, 3, none⟩ = some (.slice (some ⟨bp, 0, none⟩) M M) := by rw [cell_of_heap e1]; rfl
  have d2 : w1.cell? ⟨b, 2, none⟩ = some (.slice ao n cap) := by rw [cell_of_heap e1]; rfl
  have hmade : w1.heap[w.heap.size]? = some (.cells (placeRow (fun _ => 0) (2 * M)) 3 (0, 0)) := by
    have e := block_of_made (z := #[Value.int .i64 0]) (size := 1) (n := 2 * M) (by rw [Nat.mul_one]; exact hown)
    have e2 := madeZeros (2 * M)
    rw [e]
    exact congrArg (fun c => some (Obj.cells c _ _)) e2
  have l1 : w.heap.size < w1.heap.size := lt_of_heap hmade
  have m1 : TabMem (w1.setCell ⟨b, 3, none⟩ (.slice (some ⟨w.heap.size, 0, none⟩) (2 * M) (2 * M))) b w.heap.size (2 * M) (.slice ao n cap) V B L n (fun _ => 0) s := by
    have kk := Keeps.setCell (S := fun k => k = b) ((Keeps.refl _ w1)) (p := ⟨b, 3, none⟩) (fun _ => rfl) (.slice (some ⟨w.heap.size, 0, none⟩) (2 * M) (2 * M))
    refine ⟨heap_set e1 3 _, (kk.block w.heap.size l1 (by omega)).trans hmade, ownsRow_keeps' (ownsRow_keeps' H.out.nodes k1 (by simp)) kk (fun k hk e => ?_)⟩
    subst e; exact (H.out.ne).2.1 hk
  have M1 := Lib.hid m1
  have kw : Keeps (fun k => k = b) w (w1.setCell ⟨b, 3, none⟩ (.slice (some ⟨w.heap.size, 0, none⟩) (2 * M) (2 * M))) := Keeps.setCell (S := fun k => k = b) (k1.mono (fun k _ h => by cases h)) (p := ⟨b, 3, none⟩) (fun _ => rfl) _
  have Kw := Lib.hid kw
  have d2' : (w1.setCell ⟨b, 3, none⟩ (.slice (some ⟨w.heap.size, 0, none⟩) (2 * M) (2 * M))).cell? ⟨b, 2, none⟩ = some (.slice ao n cap) := by rw [cell_of_heap m1.obj]; rfl
  clear m1 kw hown hgrow k1
  go_wp2_with fail
  clear d2 d3 f3 d2' e1 c2 c3
  go_loopw [19] (fun i wr => ∃ (k : Nat) (P' : Nat → Nat), k ≤ n ∧ i = .int .i64 k ∧ TabMem wr b w.heap.size (2 * M) (.slice ao n cap) V B L n P' s ∧ Hid (Placed (startAt (2 * M)) L k (2 * M) P') ∧ Keeps (fun k => k = b) w wr) (fun i _ => n - (intOf i).toNat)
  case atStart => exact ⟨0, fun _ => 0, Nat.zero_le _, rfl, M1.out, Placed.empty _ _ _ (by omega), Kw.out⟩
  case round =>
    obtain ⟨k, P', hk, rfl, hmem, hpl, hkp⟩ := hrel
    by_cases hlt : k < n
    · have t3 : wr.cell? ⟨b, 3, none⟩ = some (.slice (some ⟨w.heap.size, 0, none⟩) (2 * M) (2 * M)) := by rw [cell_of_heap hmem.obj]; rfl
      obtain ⟨ao', cap', hv, _, _, hr⟩ := hmem.row
      cases hv
      obtain ⟨g, rfl, hg, hrw⟩ := hr (by omega)
      obtain ⟨r0, r1, r2⟩ := hrw k hlt
      obtain ⟨⟨a0, a1, a2⟩, hLk⟩ : ∃ p, p = L k := ⟨_, rfl⟩
      rw [← hLk] at r0 r1 r2
      simp only [] at r0 r1 r2
      have lb : b < wr.heap.size := lt_of_heap hmem.obj
      have lw : w.heap.size < wr.heap.size := lt_of_heap hmem.places
      have hpc : ∀ j, j < 2 * M → wr.cell? ⟨w.heap.size, j, none⟩ = some (.int .i64 (P' j)) := fun j hj => by rw [cell_of_heap hmem.places, placeRow_get _ _ _ hj]
      have hpf : ∀ j, wr.frozen? ⟨w.heap.size, j, none⟩ = false := fun j => free_of_heap hmem.places j
      have hF : ∀ W, Keeps (fun _ => False) wr W → Calls Try.prog 80 #[.pointer (some ⟨b, 0, none⟩), .agg #[.int .i64 a0, .int .i64 a1, .int .i64 a2]] W (FindPost (startAt (2 * M)) L k (2 * M) P' (a0, a1, a2) W) := fun W hW =>
        find_spec (hmem.keeps hW (fun _ _ h => h)) k hpl.out hk (by omega) (by omega) a0 a1 a2
      have HF := Lib.hid hF; have Hm := Lib.hid hmem; have HLk := Lib.hid hLk
      clear hF hmem hr hrw hLk
      have hne : ¬ b = w.heap.size := by omega
      go_wp2_with fail
      go_region_held3 (fun w' => w'.cell? ⟨b, 3, none⟩ = some (.slice (some ⟨w.heap.size, 0, none⟩) (2 * M) (2 * M)) ∧ w'.cell? ⟨wr.heap.size, 0, none⟩ = some (.int .i64 a0) ∧ w'.cell? ⟨wr.heap.size, 1, none⟩ = some (.int .i64 a1) ∧ w'.cell? ⟨wr.heap.size, 2, none⟩ = some (.int .i64 a2)) (simp [go_sem, World.cell?_alloc_past, *]) ((first | (go_at_call 80; refine (HF.out _ (((Keeps.refl _ _).alloc _).drew)).mono ?_; rintro e w' ⟨at_, rfl, hfound, hb⟩; have hat := hfound.1; have hat' : (at_ : Int) < 2 * (M : Int) := (by omega); have hpat := hpc at_ hat; have hc := (bcell hb).1; have hf := (bcell hb).2; have Hfound := Lib.hid hfound; clear hfound)))
      go_wp2_with fail
      have kf : Keeps (fun _ => False) wr w' := ((Keeps.refl _ _).alloc _).drew.trans (Keeps.of_below hb (Nat.le_refl _))
      have mm := (Hm.out.keeps kf (fun _ _ h => h)).put at_ (k + 2) hat
      have hz : P' at_ = 0 := by
        rcases Hfound.out.2 with h | ⟨i, h1, _, h3⟩
        · exact h.1
        · have := Hinj.out i k (by omega) hlt (h3.trans HLk.out); omega
      have pp : Placed (startAt (2 * M)) L (k + 1) (2 * M) (setP P' at_ (k + 2)) := hpl.out.insert (by rw [← HLk.out]; exact Hfound.out) hz (by omega)
      have ee : ((k + 2 : Nat) : Int) = (k : Int) + 2 := by omega
      rw [ee] at mm
      go_roundw
      case rel => exact ⟨k + 1, setP P' at_ (k + 2), by omega, by go_num, mm, pp, (hkp.trans (kf.mono (fun _ _ h => h.elim))).setCell (p := ⟨w.heap.size, at_, none⟩) (fun h => by simp only at h; omega) _⟩
      case measure => simp [intOf]; omega
    · obtain rfl : k = n := by omega
      go_wp2
      go_end0
      exact ⟨w.heap.size, P', rfl, hmem, hpl.out, hkp, Nat.le_refl _⟩
end Go.Proofs.Ytloidoekmicloaa
