/-
  What follows at once by a rule: the walk.
-/
import Derived.Test.YtaabmkebbnkonaaDoorLiveMem
import Derived.Deep.RegionHeld3
set_option linter.unusedVariables false
set_option linter.unusedSimpArgs false
set_option linter.unnecessarySimpa false
namespace Go.Proofs.YtaabmkebbnkonaaDoor
open Go.ChangeShapes Go.WideShapes Go.ChangeAt Go.RowKit Go.Deep SetPlain
/-- What brings leaves. -/
def BringsPost (W : World) (L : List (Nat × Nat)) (e : Ending) (W' : World) : Prop := ∃ v, e = .returned v ∧ Hid (Keeps (fun _ => False) W W' ∧ OwnP (W.heap.size + 2) W' v L)
def prs (h : Nat) (l : List Nat) : List (Nat × Nat) := l.map fun c => (h, c)
theorem prs_snoc (h : Nat) (l : List Nat) (c : Nat) : prs h (l ++ [c]) = prs h l ++ [(h, c)] := by unfold prs; rw [List.map_append]; rfl
theorem prs_len (h : Nat) (l : List Nat) : (prs h l).length = l.length := by unfold prs; rw [List.length_map]
theorem flat_len {P : Nat} (p : Nat → Nat → Bool) : ∀ l : List Nat, (l.flatMap (fun x => listTo (p x) P)).length ≤ l.length * P
  | [] => by simp
  | x :: l => by
    have h1 := flat_len (P := P) p l
    have h2 : (listTo (p x) P).length ≤ P := by rw [listTo_len]; exact cnt_le _ _
    rw [List.flatMap_cons, List.length_append, List.length_cons, Nat.succ_mul]
    omega
theorem take_snoc {l : List Nat} {j c : Nat} (hc : l[j]? = some c) : l.take (j + 1) = l.take j ++ [c] := by rw [List.take_add_one, hc]; rfl
/-- What brings calls, wherever its closure's state stands. -/
structure BrC (w0 : World) (lb fb : Nat) (P K : Nat) (In : Nat → Nat → Bool) (r : Rl) : Prop where
  cells : ∀ W L ov, ObS w0 W r L ov → W.cell? ⟨lb, 0, none⟩ = some (.pointer (some ⟨fb, 0, none⟩)) ∧ W.cell? ⟨lb, 3, none⟩ = some (.int .i64 K) ∧ W.cell? ⟨w0.heap.size, 3, none⟩ = some (.int .i64 r.a) ∧ W.cell? ⟨w0.heap.size, 4, none⟩ = some (.int .i64 r.b) ∧ W.cell? ⟨w0.heap.size, 5, none⟩ = some (.int .i64 r.via)
  list : ∀ W L ov (i : Nat), i < P * K → ObS w0 W r L ov → Calls Tryd.prog 31 #[.pointer (some ⟨fb, 0, none⟩), .int .i64 i] W fun e W' => ∃ u, e = .returned u ∧ Hid (ObS w0 W' r L ov ∧ LsR W' u (listTo (In i) P) ∧ ∀ u l, LsR W u l → LsR W' u l)
  has : ∀ W L ov (i c : Nat), i < P * K → c < P → ObS w0 W r L ov → Calls Tryd.prog 32 #[.pointer (some ⟨fb, 0, none⟩), .int .i64 i, .int .i64 c] W fun e W' => e = .returned (.bool (In i c)) ∧ W = W'
  put : ∀ W L ov (c : Nat), L.length ≤ 10000 → ObS w0 W r L ov → Calls Tryd.prog 50 #[.int .i64 c, .pointer (some ⟨w0.heap.size + 1, 0, none⟩), .pointer (some ⟨w0.heap.size, 0, none⟩)] W fun e W' => e = .returned (.tuple #[]) ∧ Hid (∃ ov', ObS w0 W' r (L ++ [(r.head.toNat, c)]) ov' ∧ ∀ u l, LsR W u l → LsR W' u l)
theorem brC_of {z : Nat} {w0 : World} {lb fb bw : Nat} {rb : Nat → Nat} {P K : Nat} {v : Value} {In : Nat → Nat → Bool} {tot : Nat} {rs : List Rl} (h : LvMem z w0 lb fb bw rb P K v In tot rs) (hT : TabIn w0) {r : Rl} (hR : rightB P K r = true) : BrC w0 lb fb P K In r := by
  refine ⟨fun W L ov hO => ?_, fun W L ov i hi hO => ?_, fun W L ov i c hi hc hO => ?_, fun W L ov c hl hO => bput_spec hO (by omega) (right_iff hR).1.1 c⟩
  · obtain ⟨c0, c1, c2, c3⟩ := (h.quiet hO.kp).cells
    refine ⟨c0, c3, ?_, ?_, ?_⟩ <;> (rw [cell_of_heap hO.rx]; rfl)
  · have hf := (h.quiet hO.kp).fam
    refine (flist_spec hf (hT.keeps hO.kp (fun x => x)) (i : Int)).mono ?_
    rintro e W' ⟨u, rfl, hown, hb⟩
    have hk := Keeps.of_below (S := fun _ => False) hb (Nat.le_refl _)
    have he : rowP (P * K) In (i : Int) = In i := by
      unfold rowP
      rw [if_pos ⟨by omega, by omega⟩]
      simp
    rw [he] at hown
    exact ⟨u, rfl, hO.quiet hk, ⟨_, hown⟩, fun u l h => h.quiet hk⟩
  · have hf := (h.quiet hO.kp).fam
    have hP := h.hP
    refine (fhas_spec hf (i : Int) (c : Int) (by omega) (by omega)).mono ?_
    rintro e W' ⟨rfl, rfl⟩
    exact ⟨by rw [hasB_in hi hc], rfl⟩
section
variable {w0 : World} {lb fb : Nat} {P K : Nat} {In : Nat → Nat → Bool} {kind head who ra rb0 via : Int}
theorem obs_start (r : Rl) : ObS w0 ((w0.alloc (.cells #[.int .i64 r.kind, .int .i64 r.head, .int .i64 r.who, .int .i64 r.a, .int .i64 r.b, .int .i64 r.via] 29)).alloc (.cells #[.slice none 0 0] 32)) r [] (.slice none 0 0) := by
  have k1 : Keeps (fun _ => False) w0 (w0.alloc (.cells #[.int .i64 r.kind, .int .i64 r.head, .int .i64 r.who, .int .i64 r.a, .int .i64 r.b, .int .i64 r.via] 29)) := (Keeps.refl _ _).alloc _
  have h1 := (MapKept.heap_alloc w0 (.cells #[.int .i64 r.kind, .int .i64 r.head, .int .i64 r.who, .int .i64 r.a, .int .i64 r.b, .int .i64 r.via] 29)).1
  have hs : (w0.alloc (.cells #[.int .i64 r.kind, .int .i64 r.head, .int .i64 r.who, .int .i64 r.a, .int .i64 r.b, .int .i64 r.via] 29)).heap.size = w0.heap.size + 1 := by simp
  have h2 := (MapKept.heap_alloc (w0.alloc (.cells #[.int .i64 r.kind, .int .i64 r.head, .int .i64 r.who, .int .i64 r.a, .int .i64 r.b, .int .i64 r.via] 29)) (.cells #[.slice none 0 0] 32)).1
  rw [hs] at h2
  have k2 : Keeps (fun _ => False) (w0.alloc (.cells #[.int .i64 r.kind, .int .i64 r.head, .int .i64 r.who, .int .i64 r.a, .int .i64 r.b, .int .i64 r.via] 29)) ((w0.alloc (.cells #[.int .i64 r.kind, .int .i64 r.head, .int .i64 r.who, .int .i64 r.a, .int .i64 r.b, .int .i64 r.via] 29)).alloc (.cells #[.slice none 0 0] 32)) := (Keeps.refl _ _).alloc _
  exact ⟨h2, World.ownsRow_nil _ _ _ _, (k2.block _ (lt_of_heap h1) (fun x => x)).trans h1, k1.trans k2⟩
theorem LsR.reads {W : World} {u : Value} {l : List Nat} (h : LsR W u l) : ReadsL W u l := by
  obtain ⟨base, h1⟩ := h
  exact ReadsL.of_own h1
theorem obs_end {r : Rl} {W : World} {L : List (Nat × Nat)} {ov : Value} (h : ObS w0 W r L ov) : W.cell? ⟨w0.heap.size + 1, 0, none⟩ = some ov := by rw [cell_of_heap h.box]; rfl
theorem obs_form {r : Rl} {W : World} {L : List (Nat × Nat)} {ov : Value} {n : Nat} (h : ObS w0 W r L ov) (hn : L.length = n) : ∃ ao cap, ov = .slice ao n cap := by
  subst hn
  obtain ⟨ao, cap, hv, _⟩ := own_form h.own
  exact ⟨ao, cap, hv⟩
theorem obs_fin {r : Rl} {W : World} {L : List (Nat × Nat)} {ov : Value} (h : ObS w0 W r L ov) : BringsPost w0 L (.returned ov) (W.setCell ⟨w0.heap.size + 1, 0, none⟩ ov) := by
  have kk : Keeps (fun x => x = w0.heap.size + 1) W (W.setCell ⟨w0.heap.size + 1, 0, none⟩ ov) := Keeps.setCell (S := fun x => x = w0.heap.size + 1) (Keeps.refl _ W) (p := ⟨w0.heap.size + 1, 0, none⟩) (fun _ => rfl) _
  exact ⟨ov, rfl, h.kp.trans_new kk (fun q hq e => by omega), h.own.keeps kk (fun k e e2 => by have := own_block h.own k e; omega)⟩
theorem obs_res {r : Rl} {W : World} {L : List (Nat × Nat)} {ov : Value} (h : ObS w0 W r L ov) : (W.setCell ⟨w0.heap.size + 1, 0, none⟩ ov).cell? ⟨w0.heap.size + 1, 0, none⟩ = some ov := by
  have hs := heap_set h.box 0 ov
  rw [cell_of_heap hs]
  rfl
theorem obs_frozen {r : Rl} {W : World} {L : List (Nat × Nat)} {ov : Value} (h : ObS w0 W r L ov) : W.frozen? ⟨w0.heap.size + 1, 0, none⟩ = false := free_of_heap h.box 0
set_option maxRecDepth 100000
set_option maxHeartbeats 3200000
theorem brings_1 (h : BrC w0 lb fb P K In ⟨1, head, who, ra, rb0, via⟩) (hw : 0 ≤ who) :
    Calls Tryd.prog 39 #[.pointer (some ⟨lb, 0, none⟩), .agg #[.int .i64 1, .int .i64 head, .int .i64 who, .int .i64 ra, .int .i64 rb0, .int .i64 via]] w0 (BringsPost w0 (prs head.toNat [who.toNat])) := by
  have HC := Lib.hid h
  have HO0 := Lib.hid (obs_start (w0 := w0) ⟨1, head, who, ra, rb0, via⟩)
  have hk0 := (obs_start (w0 := w0) ⟨1, head, who, ra, rb0, via⟩).rx
  have g0 : ((w0.alloc (.cells #[.int .i64 1, .int .i64 head, .int .i64 who, .int .i64 ra, .int .i64 rb0, .int .i64 via] 29)).alloc (.cells #[.slice none 0 0] 32)).cell? ⟨w0.heap.size, 0, none⟩ = some (.int .i64 1) := by rw [cell_of_heap hk0]; rfl
  have g2 : ((w0.alloc (.cells #[.int .i64 1, .int .i64 head, .int .i64 who, .int .i64 ra, .int .i64 rb0, .int .i64 via] 29)).alloc (.cells #[.slice none 0 0] 32)).cell? ⟨w0.heap.size, 2, none⟩ = some (.int .i64 who) := by rw [cell_of_heap hk0]; rfl
  clear h hk0
  go_enter Tryd.func39, Tryd.ntmps39
  obtain ⟨wn, hwn⟩ : ∃ wn : Nat, who = wn := ⟨who.toNat, by omega⟩
  subst hwn
  obtain ⟨w1, hw1⟩ : ∃ w1, ((w0.alloc (.cells #[.int .i64 1, .int .i64 head, .int .i64 wn, .int .i64 ra, .int .i64 rb0, .int .i64 via] 29)).alloc (.cells #[.slice none 0 0] 32)) = w1 := ⟨_, rfl⟩
  have HP := Lib.hid (HC.out.put _ _ _ wn (by simp) HO0.out)
  rw [hw1] at HP
  rw [hw1] at g0 g2 HO0
  go_upto_region 2 with fail
  (try simp only [hw1])
  clear hw1
  go_wp2_with (go_at_call 50; refine HP.out.mono ?_; rintro e wA ⟨rfl, hA⟩; obtain ⟨ov, hO, _⟩ := hA.out; obtain ⟨ao9, cap9, rfl⟩ := obs_form (n := 1) hO rfl; have e0 := obs_end hO; have f0 := obs_frozen hO; have e9 := obs_res hO)
  have HF : Hid (BringsPost w0 [(head.toNat, wn)] _ _) := obs_fin hO
  clear HP hA hO HO0 HC g0 g2
  refine bodyPost_ret (v := .slice ao9 1 cap9) (by simp [results, Tryd.results39, go_sem, e9]) rfl HF.out
theorem brings_2 (hP : P ≤ 64) (a : Nat) (hia : a < P * K) (h : BrC w0 lb fb P K In ⟨2, head, who, (a : Int), rb0, via⟩) :
    Calls Tryd.prog 39 #[.pointer (some ⟨lb, 0, none⟩), .agg #[.int .i64 2, .int .i64 head, .int .i64 who, .int .i64 (a : Int), .int .i64 rb0, .int .i64 via]] w0 (BringsPost w0 (prs head.toNat (listTo (In a) P))) := by
  have HC := Lib.hid h
  have HO0 := Lib.hid (obs_start (w0 := w0) ⟨2, head, who, (a : Int), rb0, via⟩)
  have hk0 := (obs_start (w0 := w0) ⟨2, head, who, (a : Int), rb0, via⟩).rx
  have g0 : ((w0.alloc (.cells #[.int .i64 2, .int .i64 head, .int .i64 who, .int .i64 (a : Int), .int .i64 rb0, .int .i64 via] 29)).alloc (.cells #[.slice none 0 0] 32)).cell? ⟨w0.heap.size, 0, none⟩ = some (.int .i64 2) := by rw [cell_of_heap hk0]; rfl
  have g2 : ((w0.alloc (.cells #[.int .i64 2, .int .i64 head, .int .i64 who, .int .i64 (a : Int), .int .i64 rb0, .int .i64 via] 29)).alloc (.cells #[.slice none 0 0] 32)).cell? ⟨w0.heap.size, 2, none⟩ = some (.int .i64 who) := by rw [cell_of_heap hk0]; rfl
  clear h hk0
  go_enter Tryd.func39, Tryd.ntmps39
  go_upto_region 6 with fail
  obtain ⟨w1, hw1⟩ : ∃ w1, ((w0.alloc (.cells #[.int .i64 2, .int .i64 head, .int .i64 who, .int .i64 (a : Int), .int .i64 rb0, .int .i64 via] 29)).alloc (.cells #[.slice none 0 0] 32)) = w1 := ⟨_, rfl⟩
  simp only [hw1] at HO0 g0 g2 ⊢
  clear hw1 g0 g2
  have H0 : (fun w' => w'.cell? ⟨lb, 0, none⟩ = some (.pointer (some ⟨fb, 0, none⟩)) ∧ w'.cell? ⟨lb, 3, none⟩ = some (.int .i64 K) ∧ w'.cell? ⟨w0.heap.size, 3, none⟩ = some (.int .i64 (a : Int)) ∧ w'.cell? ⟨w0.heap.size, 4, none⟩ = some (.int .i64 rb0) ∧ w'.cell? ⟨w0.heap.size, 5, none⟩ = some (.int .i64 via)) w1.drew := HC.out.cells _ _ _ (HO0.out.quiet ((Keeps.refl _ _).drew))
  have HLI := Lib.hid (HC.out.list w1.drew _ _ a hia (HO0.out.quiet ((Keeps.refl _ _).drew)))
  refine wp_region_noPanic ?_
  refine wp_region_held_drew (S := (fun w' => w'.cell? ⟨lb, 0, none⟩ = some (.pointer (some ⟨fb, 0, none⟩)) ∧ w'.cell? ⟨lb, 3, none⟩ = some (.int .i64 K) ∧ w'.cell? ⟨w0.heap.size, 3, none⟩ = some (.int .i64 (a : Int)) ∧ w'.cell? ⟨w0.heap.size, 4, none⟩ = some (.int .i64 rb0) ∧ w'.cell? ⟨w0.heap.size, 5, none⟩ = some (.int .i64 via))) (by kernel_rfl) H0 (fun hHeld => ?_)
  refine wpAnyH_take_at (i := 0) (v := ?v0) rfl (by kernel_rfl) (by kernel_rfl) (by kernel_rfl) (fun _ _ _ h => h) (Or.inl ⟨by rfl, ?y0⟩) hHeld ?r0
  case y0 => (intro w hSw; (try dsimp only at hSw); go_simp; first | done | with_reducible rfl)
  (try simp only [Act.put, List.setIfInBounds_toArray, List.set_cons_zero, List.set_cons_succ])
  refine wpAnyH_take_at (i := 1) (v := ?v1) rfl (by kernel_rfl) (by kernel_rfl) (by kernel_rfl) (fun _ _ _ h => h) (Or.inl ⟨by rfl, ?y1⟩) hHeld ?r1
  case y1 => (intro w hSw; (try dsimp only at hSw); go_simp; first | done | with_reducible rfl)
  (try simp only [Act.put, List.setIfInBounds_toArray, List.set_cons_zero, List.set_cons_succ])
  refine wpAnyH_take_at (i := 2) (v := ?v2) rfl (by kernel_rfl) (by kernel_rfl) (by kernel_rfl) (fun _ _ _ h => h) (Or.inl ⟨by rfl, ?y2⟩) hHeld ?r2
  case y2 => (intro w hSw; (try dsimp only at hSw); go_simp; first | done | with_reducible rfl)
  (try simp only [Act.put, List.setIfInBounds_toArray, List.set_cons_zero, List.set_cons_succ])
  refine wpAnyH_take_at (i := 3) (v := ?v3) rfl (by kernel_rfl) (by kernel_rfl) (by kernel_rfl) (fun _ _ _ h => h) (Or.inl ⟨by rfl, ?y3⟩) hHeld ?r3
  case y3 => (intro w hSw; (try dsimp only at hSw); go_simp; first | done | with_reducible rfl)
  (try simp only [Act.put, List.setIfInBounds_toArray, List.set_cons_zero, List.set_cons_succ])
  refine wpAnyH_take_at (i := 4) (v := ?v4) rfl (by kernel_rfl) (by kernel_rfl) (by kernel_rfl) (fun _ _ _ h => h) (Or.inl ⟨by rfl, ?y4⟩) hHeld ?r4
  case y4 => (intro w hSw; (try dsimp only at hSw); go_simp; first | done | with_reducible rfl)
  (try simp only [Act.put, List.setIfInBounds_toArray, List.set_cons_zero, List.set_cons_succ])
  refine wpAnyH_take_at (i := 5) (v := ?v5) rfl (by kernel_rfl) (by kernel_rfl) (by kernel_rfl) (fun _ _ _ h => h) (Or.inl ⟨by rfl, ?y5⟩) hHeld ?r5
  case y5 => (intro w hSw; (try dsimp only at hSw); go_simp; first | done | with_reducible rfl)
  (try simp only [Act.put, List.setIfInBounds_toArray, List.set_cons_zero, List.set_cons_succ])
  refine wpAnyH_take_at (i := 8) (v := ?v8) rfl (by kernel_rfl) (by kernel_rfl) (by kernel_rfl) (fun _ _ _ h => h) (Or.inl ⟨by rfl, ?y8⟩) hHeld ?r8
  case y8 => (intro w hSw; (try dsimp only at hSw); go_simp; first | done | with_reducible rfl)
  (try simp only [Act.put, List.setIfInBounds_toArray, List.set_cons_zero, List.set_cons_succ])
  refine wpAnyH_one (i := 6) (by kernel_rfl) rfl (fun KK hK => ?_)
  go_simp
  refine HLI.out.mono ?_
  rintro e wL ⟨uL, rfl, hL⟩
  obtain ⟨au, cu, rfl, hcu, _⟩ := hL.out.2.1.reads
  go_simp
  refine hK.out _ _ ?s6 (fun hHeld => ?_)
  case s6 => exact HC.out.cells _ _ _ hL.out.1
  clear hK KK
  (try simp only [Act.put, List.setIfInBounds_toArray, List.set_cons_zero, List.set_cons_succ])
  refine wpAnyH_take_at (i := 7) (v := ?v7) rfl (by kernel_rfl) (by kernel_rfl) (by kernel_rfl) (fun _ _ _ h => h) (Or.inl ⟨by rfl, ?y7⟩) hHeld ?r7
  case y7 => (intro w hSw; (try dsimp only at hSw); go_simp; first | done | with_reducible rfl)
  (try simp only [Act.put, List.setIfInBounds_toArray, List.set_cons_zero, List.set_cons_succ])
  refine wpAnyH_done (by kernel_rfl) ?_ _
  refine NoPanic.normal ?_
  obtain ⟨L, hLd⟩ : ∃ L, listTo (In a) P = L := ⟨_, rfl⟩
  obtain ⟨ln, hln⟩ : ∃ ln, L.length = ln := ⟨_, rfl⟩
  have hl64 : ln ≤ 64 := by rw [← hln, ← hLd, listTo_len]; exact Nat.le_trans (cnt_le _ _) hP
  have HLT : Hid (∀ x ∈ L, x < P) := fun x hx => by rw [← hLd] at hx; exact (listTo_lt _ _ x hx).1
  have HOL0 := Lib.hid hL.out.1
  have hls := hL.out.2.1
  rw [hLd] at hls hcu ⊢
  rw [hln] at hls hcu ⊢
  have HLS0 := Lib.hid hls
  have HLD := Lib.hid hLd
  have HLN := Lib.hid hln
  clear hHeld HLI hL H0 HO0 hLd hln hls
  go_wp2_with fail
  go_loopg [33] ln (fun g t wy => ∃ (j : Nat), j ≤ ln ∧ g = ln - j ∧ t = .int .i64 j ∧ Hid ((∃ ov, ObS w0 wy ⟨2, head, who, (a : Int), rb0, via⟩ (prs head.toNat (L.take j)) ov) ∧ LsR wy (.slice au ln cu) L))
  case atStart => exact ⟨0, Nat.zero_le _, rfl, rfl, ⟨_, HOL0.out⟩, HLS0.out⟩
  case round =>
    clear HOL0 HLS0
    obtain ⟨j, hj, rfl, rfl, HI⟩ := hrel
    by_cases hlt : j < ln
    · have hjI : (j : Int) < (ln : Int) := by omega
      have hwj : IntKind.i64.wrap ((j : Int) + 1) = (j : Int) + 1 := IntWalk.i64_in _ (by omega)
      obtain ⟨c, hc⟩ : ∃ c, L[j]? = some c := ⟨_, List.getElem?_eq_getElem (by rw [HLN.out]; exact hlt)⟩
      obtain ⟨au', cu', he, _, _, hrd⟩ := HI.out.2.reads
      simp only [Value.slice.injEq] at he
      obtain ⟨rfl, -, rfl⟩ := he
      obtain ⟨gu, rfl, hgu, hcc⟩ := hrd (by rw [HLN.out]; omega)
      have cU := hcc j c hc
      have HTS := Lib.hid (take_snoc hc)
      clear hcc hrd
      obtain ⟨ov, hO⟩ := HI.out.1
      have HP := Lib.hid (HC.out.put _ _ _ c (by rw [prs_len, List.length_take]; omega) hO)
      have HLS := Lib.hid HI.out.2
      clear hO hc HI
      go_wp2_with (go_at_call 50; refine HP.out.mono ?_; rintro e wA ⟨rfl, hA⟩)
      have HN : Hid ((∃ ov, ObS w0 wA ⟨2, head, who, (a : Int), rb0, via⟩ (prs head.toNat (L.take (j + 1))) ov) ∧ LsR wA (.slice (some ⟨gu, 0, none⟩) ln cu) L) := by
        obtain ⟨ov2, h1, h2⟩ := hA.out
        exact ⟨⟨ov2, by rw [HTS.out, prs_snoc]; exact h1⟩, h2 _ _ HLS.out⟩
      clear HP hA HLS cU
      go_wp2_with fail
      go_roundg (ln - (j + 1))
      case measure => omega
      case rel => exact ⟨j + 1, by omega, rfl, by go_num, HN⟩
    · have hje : j = ln := by omega
      have hjI : ¬ (j : Int) < (ln : Int) := by omega
      obtain ⟨ov, hO⟩ := HI.out.1
      rw [List.take_of_length_le (by rw [HLN.out]; omega), ← HLD.out] at hO
      obtain ⟨nn, hnn⟩ : ∃ nn, (prs head.toNat (listTo (In a) P)).length = nn := ⟨_, rfl⟩
      obtain ⟨ao9, cap9, rfl⟩ := obs_form hO hnn
      have e0 := obs_end hO
      have f0 := obs_frozen hO
      have e9 := obs_res hO
      have HF := Lib.hid (obs_fin hO)
      clear HI hO hnn
      go_wp2_with fail
      refine bodyPost_ret (v := .slice ao9 nn cap9) (by simp [results, Tryd.results39, go_sem, e9]) rfl HF.out
theorem brings_4 (hP : P ≤ 64) (a b : Nat) (hia : a < P * K) (hib : b < P * K) (h : BrC w0 lb fb P K In ⟨4, head, who, (a : Int), (b : Int), via⟩) :
    Calls Tryd.prog 39 #[.pointer (some ⟨lb, 0, none⟩), .agg #[.int .i64 4, .int .i64 head, .int .i64 who, .int .i64 (a : Int), .int .i64 (b : Int), .int .i64 via]] w0 (BringsPost w0 (prs head.toNat ((listTo (In a) P).filter (fun c => In b c)))) := by
  have HC := Lib.hid h
  have HO0 := Lib.hid (obs_start (w0 := w0) ⟨4, head, who, (a : Int), (b : Int), via⟩)
  have hk0 := (obs_start (w0 := w0) ⟨4, head, who, (a : Int), (b : Int), via⟩).rx
  have g0 : ((w0.alloc (.cells #[.int .i64 4, .int .i64 head, .int .i64 who, .int .i64 (a : Int), .int .i64 (b : Int), .int .i64 via] 29)).alloc (.cells #[.slice none 0 0] 32)).cell? ⟨w0.heap.size, 0, none⟩ = some (.int .i64 4) := by rw [cell_of_heap hk0]; rfl
  have g2 : ((w0.alloc (.cells #[.int .i64 4, .int .i64 head, .int .i64 who, .int .i64 (a : Int), .int .i64 (b : Int), .int .i64 via] 29)).alloc (.cells #[.slice none 0 0] 32)).cell? ⟨w0.heap.size, 2, none⟩ = some (.int .i64 who) := by rw [cell_of_heap hk0]; rfl
  clear h hk0
  go_enter Tryd.func39, Tryd.ntmps39
  go_upto_region 12 with fail
  obtain ⟨w1, hw1⟩ : ∃ w1, ((w0.alloc (.cells #[.int .i64 4, .int .i64 head, .int .i64 who, .int .i64 (a : Int), .int .i64 (b : Int), .int .i64 via] 29)).alloc (.cells #[.slice none 0 0] 32)) = w1 := ⟨_, rfl⟩
  simp only [hw1] at HO0 g0 g2 ⊢
  clear hw1 g0 g2
  have H0 : (fun w' => w'.cell? ⟨lb, 0, none⟩ = some (.pointer (some ⟨fb, 0, none⟩)) ∧ w'.cell? ⟨lb, 3, none⟩ = some (.int .i64 K) ∧ w'.cell? ⟨w0.heap.size, 3, none⟩ = some (.int .i64 (a : Int)) ∧ w'.cell? ⟨w0.heap.size, 4, none⟩ = some (.int .i64 (b : Int)) ∧ w'.cell? ⟨w0.heap.size, 5, none⟩ = some (.int .i64 via)) w1.drew := HC.out.cells _ _ _ (HO0.out.quiet ((Keeps.refl _ _).drew))
  have HLI := Lib.hid (HC.out.list w1.drew _ _ a hia (HO0.out.quiet ((Keeps.refl _ _).drew)))
  refine wp_region_noPanic ?_
  refine wp_region_held_drew (S := (fun w' => w'.cell? ⟨lb, 0, none⟩ = some (.pointer (some ⟨fb, 0, none⟩)) ∧ w'.cell? ⟨lb, 3, none⟩ = some (.int .i64 K) ∧ w'.cell? ⟨w0.heap.size, 3, none⟩ = some (.int .i64 (a : Int)) ∧ w'.cell? ⟨w0.heap.size, 4, none⟩ = some (.int .i64 (b : Int)) ∧ w'.cell? ⟨w0.heap.size, 5, none⟩ = some (.int .i64 via))) (by kernel_rfl) H0 (fun hHeld => ?_)
  refine wpAnyH_take_at (i := 0) (v := ?v0) rfl (by kernel_rfl) (by kernel_rfl) (by kernel_rfl) (fun _ _ _ h => h) (Or.inl ⟨by rfl, ?y0⟩) hHeld ?r0
  case y0 => (intro w hSw; (try dsimp only at hSw); go_simp; first | done | with_reducible rfl)
  (try simp only [Act.put, List.setIfInBounds_toArray, List.set_cons_zero, List.set_cons_succ])
  refine wpAnyH_take_at (i := 1) (v := ?v1) rfl (by kernel_rfl) (by kernel_rfl) (by kernel_rfl) (fun _ _ _ h => h) (Or.inl ⟨by rfl, ?y1⟩) hHeld ?r1
  case y1 => (intro w hSw; (try dsimp only at hSw); go_simp; first | done | with_reducible rfl)
  (try simp only [Act.put, List.setIfInBounds_toArray, List.set_cons_zero, List.set_cons_succ])
  refine wpAnyH_take_at (i := 2) (v := ?v2) rfl (by kernel_rfl) (by kernel_rfl) (by kernel_rfl) (fun _ _ _ h => h) (Or.inl ⟨by rfl, ?y2⟩) hHeld ?r2
  case y2 => (intro w hSw; (try dsimp only at hSw); go_simp; first | done | with_reducible rfl)
  (try simp only [Act.put, List.setIfInBounds_toArray, List.set_cons_zero, List.set_cons_succ])
  refine wpAnyH_take_at (i := 3) (v := ?v3) rfl (by kernel_rfl) (by kernel_rfl) (by kernel_rfl) (fun _ _ _ h => h) (Or.inl ⟨by rfl, ?y3⟩) hHeld ?r3
  case y3 => (intro w hSw; (try dsimp only at hSw); go_simp; first | done | with_reducible rfl)
  (try simp only [Act.put, List.setIfInBounds_toArray, List.set_cons_zero, List.set_cons_succ])
  refine wpAnyH_take_at (i := 4) (v := ?v4) rfl (by kernel_rfl) (by kernel_rfl) (by kernel_rfl) (fun _ _ _ h => h) (Or.inl ⟨by rfl, ?y4⟩) hHeld ?r4
  case y4 => (intro w hSw; (try dsimp only at hSw); go_simp; first | done | with_reducible rfl)
  (try simp only [Act.put, List.setIfInBounds_toArray, List.set_cons_zero, List.set_cons_succ])
  refine wpAnyH_take_at (i := 5) (v := ?v5) rfl (by kernel_rfl) (by kernel_rfl) (by kernel_rfl) (fun _ _ _ h => h) (Or.inl ⟨by rfl, ?y5⟩) hHeld ?r5
  case y5 => (intro w hSw; (try dsimp only at hSw); go_simp; first | done | with_reducible rfl)
  (try simp only [Act.put, List.setIfInBounds_toArray, List.set_cons_zero, List.set_cons_succ])
  refine wpAnyH_take_at (i := 8) (v := ?v8) rfl (by kernel_rfl) (by kernel_rfl) (by kernel_rfl) (fun _ _ _ h => h) (Or.inl ⟨by rfl, ?y8⟩) hHeld ?r8
  case y8 => (intro w hSw; (try dsimp only at hSw); go_simp; first | done | with_reducible rfl)
  (try simp only [Act.put, List.setIfInBounds_toArray, List.set_cons_zero, List.set_cons_succ])
  refine wpAnyH_one (i := 6) (by kernel_rfl) rfl (fun KK hK => ?_)
  go_simp
  refine HLI.out.mono ?_
  rintro e wL ⟨uL, rfl, hL⟩
  obtain ⟨au, cu, rfl, hcu, _⟩ := hL.out.2.1.reads
  go_simp
  refine hK.out _ _ ?s6 (fun hHeld => ?_)
  case s6 => exact HC.out.cells _ _ _ hL.out.1
  clear hK KK
  (try simp only [Act.put, List.setIfInBounds_toArray, List.set_cons_zero, List.set_cons_succ])
  refine wpAnyH_take_at (i := 7) (v := ?v7) rfl (by kernel_rfl) (by kernel_rfl) (by kernel_rfl) (fun _ _ _ h => h) (Or.inl ⟨by rfl, ?y7⟩) hHeld ?r7
  case y7 => (intro w hSw; (try dsimp only at hSw); go_simp; first | done | with_reducible rfl)
  (try simp only [Act.put, List.setIfInBounds_toArray, List.set_cons_zero, List.set_cons_succ])
  refine wpAnyH_done (by kernel_rfl) ?_ _
  refine NoPanic.normal ?_
  obtain ⟨L, hLd⟩ : ∃ L, listTo (In a) P = L := ⟨_, rfl⟩
  obtain ⟨ln, hln⟩ : ∃ ln, L.length = ln := ⟨_, rfl⟩
  have hl64 : ln ≤ 64 := by rw [← hln, ← hLd, listTo_len]; exact Nat.le_trans (cnt_le _ _) hP
  have HLT : Hid (∀ x ∈ L, x < P) := fun x hx => by rw [← hLd] at hx; exact (listTo_lt _ _ x hx).1
  have HOL0 := Lib.hid hL.out.1
  have hls := hL.out.2.1
  rw [hLd] at hls hcu ⊢
  rw [hln] at hls hcu ⊢
  have HLS0 := Lib.hid hls
  have HLD := Lib.hid hLd
  have HLN := Lib.hid hln
  clear hHeld HLI hL H0 HO0 hLd hln hls
  go_wp2_with fail
  go_loopg [51] ln (fun g t wy => ∃ (j : Nat), j ≤ ln ∧ g = ln - j ∧ t = .int .i64 j ∧ Hid ((∃ ov, ObS w0 wy ⟨4, head, who, (a : Int), (b : Int), via⟩ (prs head.toNat ((L.take j).filter (fun c => In b c))) ov) ∧ LsR wy (.slice au ln cu) L))
  case atStart => exact ⟨0, Nat.zero_le _, rfl, rfl, ⟨_, HOL0.out⟩, HLS0.out⟩
  case round =>
    clear HOL0 HLS0
    obtain ⟨j, hj, rfl, rfl, HI⟩ := hrel
    by_cases hlt : j < ln
    · have hjI : (j : Int) < (ln : Int) := by omega
      have hwj : IntKind.i64.wrap ((j : Int) + 1) = (j : Int) + 1 := IntWalk.i64_in _ (by omega)
      obtain ⟨c, hc⟩ : ∃ c, L[j]? = some c := ⟨_, List.getElem?_eq_getElem (by rw [HLN.out]; exact hlt)⟩
      obtain ⟨au', cu', he, _, _, hrd⟩ := HI.out.2.reads
      simp only [Value.slice.injEq] at he
      obtain ⟨rfl, -, rfl⟩ := he
      obtain ⟨gu, rfl, hgu, hcc⟩ := hrd (by rw [HLN.out]; omega)
      have cU := hcc j c hc
      have HTS := Lib.hid (take_snoc hc)
      clear hcc hrd
      obtain ⟨ov, hO⟩ := HI.out.1
      go_upto_region 15 with fail
      clear cU
      have H0 : (fun w' => w'.cell? ⟨lb, 0, none⟩ = some (.pointer (some ⟨fb, 0, none⟩)) ∧ w'.cell? ⟨lb, 3, none⟩ = some (.int .i64 K) ∧ w'.cell? ⟨w0.heap.size, 3, none⟩ = some (.int .i64 (a : Int)) ∧ w'.cell? ⟨w0.heap.size, 4, none⟩ = some (.int .i64 (b : Int)) ∧ w'.cell? ⟨w0.heap.size, 5, none⟩ = some (.int .i64 via)) wr.drew := HC.out.cells _ _ _ (hO.quiet ((Keeps.refl _ _).drew))
      have HHA := Lib.hid (HC.out.has wr.drew _ _ b c hib (HLT.out c (List.mem_of_getElem? hc)) (hO.quiet ((Keeps.refl _ _).drew)))
      have HOQ := Lib.hid (hO.quiet ((Keeps.refl _ _).drew))
      have HLS := Lib.hid (HI.out.2.quiet ((Keeps.refl _ wr).drew))
      obtain ⟨bv, hbv⟩ : ∃ bv, In b c = bv := ⟨_, rfl⟩
      have HBV := Lib.hid hbv
      rw [hbv] at HHA
      clear hO hc HI hbv
      refine wp_region_noPanic ?_
      refine wp_region_held_drew (S := (fun w' => w'.cell? ⟨lb, 0, none⟩ = some (.pointer (some ⟨fb, 0, none⟩)) ∧ w'.cell? ⟨lb, 3, none⟩ = some (.int .i64 K) ∧ w'.cell? ⟨w0.heap.size, 3, none⟩ = some (.int .i64 (a : Int)) ∧ w'.cell? ⟨w0.heap.size, 4, none⟩ = some (.int .i64 (b : Int)) ∧ w'.cell? ⟨w0.heap.size, 5, none⟩ = some (.int .i64 via))) (by kernel_rfl) H0 (fun hHeld => ?_)
      refine wpAnyH_take_at (i := 0) (v := ?v0b) rfl (by kernel_rfl) (by kernel_rfl) (by kernel_rfl) (fun _ _ _ h => h) (Or.inl ⟨by rfl, ?y0b⟩) hHeld ?r0b
      case y0b => (intro w hSw; (try dsimp only at hSw); go_simp; first | done | with_reducible rfl)
      (try simp only [Act.put, List.setIfInBounds_toArray, List.set_cons_zero, List.set_cons_succ])
      refine wpAnyH_take_at (i := 1) (v := ?v1b) rfl (by kernel_rfl) (by kernel_rfl) (by kernel_rfl) (fun _ _ _ h => h) (Or.inl ⟨by rfl, ?y1b⟩) hHeld ?r1b
      case y1b => (intro w hSw; (try dsimp only at hSw); go_simp; first | done | with_reducible rfl)
      (try simp only [Act.put, List.setIfInBounds_toArray, List.set_cons_zero, List.set_cons_succ])
      refine wpAnyH_take_at (i := 2) (v := ?v2b) rfl (by kernel_rfl) (by kernel_rfl) (by kernel_rfl) (fun _ _ _ h => h) (Or.inl ⟨by rfl, ?y2b⟩) hHeld ?r2b
      case y2b => (intro w hSw; (try dsimp only at hSw); go_simp; first | done | with_reducible rfl)
      (try simp only [Act.put, List.setIfInBounds_toArray, List.set_cons_zero, List.set_cons_succ])
      refine wpAnyH_take_at (i := 3) (v := ?v3b) rfl (by kernel_rfl) (by kernel_rfl) (by kernel_rfl) (fun _ _ _ h => h) (Or.inl ⟨by rfl, ?y3b⟩) hHeld ?r3b
      case y3b => (intro w hSw; (try dsimp only at hSw); go_simp; first | done | with_reducible rfl)
      (try simp only [Act.put, List.setIfInBounds_toArray, List.set_cons_zero, List.set_cons_succ])
      refine wpAnyH_take_at (i := 4) (v := ?v4b) rfl (by kernel_rfl) (by kernel_rfl) (by kernel_rfl) (fun _ _ _ h => h) (Or.inl ⟨by rfl, ?y4b⟩) hHeld ?r4b
      case y4b => (intro w hSw; (try dsimp only at hSw); go_simp; first | done | with_reducible rfl)
      (try simp only [Act.put, List.setIfInBounds_toArray, List.set_cons_zero, List.set_cons_succ])
      refine wpAnyH_take_at (i := 5) (v := ?v5b) rfl (by kernel_rfl) (by kernel_rfl) (by kernel_rfl) (fun _ _ _ h => h) (Or.inl ⟨by rfl, ?y5b⟩) hHeld ?r5b
      case y5b => (intro w hSw; (try dsimp only at hSw); go_simp; first | done | with_reducible rfl)
      (try simp only [Act.put, List.setIfInBounds_toArray, List.set_cons_zero, List.set_cons_succ])
      refine wpAnyH_take_at (i := 6) (v := ?v6b) rfl (by kernel_rfl) (by kernel_rfl) (by kernel_rfl) (fun _ _ _ h => h) (Or.inl ⟨by rfl, ?y6b⟩) hHeld ?r6b
      case y6b => (intro w hSw; (try dsimp only at hSw); go_simp; first | done | with_reducible rfl)
      (try simp only [Act.put, List.setIfInBounds_toArray, List.set_cons_zero, List.set_cons_succ])
      refine wpAnyH_one (i := 7) (by kernel_rfl) rfl (fun KK hK => ?_)
      go_simp
      refine HHA.out.mono ?_
      rintro e wL2 ⟨rfl, rfl⟩
      go_simp
      refine hK.out _ _ ?s7b (fun hHeld => ?_)
      case s7b => exact H0
      clear hK KK
      (try simp only [Act.put, List.setIfInBounds_toArray, List.set_cons_zero, List.set_cons_succ])
      refine wpAnyH_done (by kernel_rfl) ?_ _
      refine NoPanic.normal ?_
      clear hHeld HHA H0
      cases bv with
      | false =>
        have HN : Hid ((∃ ov, ObS w0 wr.drew ⟨4, head, who, (a : Int), (b : Int), via⟩ (prs head.toNat ((L.take (j + 1)).filter (fun c => In b c))) ov) ∧ LsR wr.drew (.slice (some ⟨gu, 0, none⟩) ln cu) L) := by
          refine ⟨⟨ov, ?_⟩, HLS.out⟩
          rw [HTS.out, List.filter_append]
          have h0 : List.filter (fun c => In b c) [c] = [] := by simp [HBV.out]
          rw [h0, List.append_nil]
          exact HOQ.out
        clear HOQ HLS HBV HTS
        go_wp2_with fail
        go_roundg (ln - (j + 1))
        case measure => omega
        case rel => exact ⟨j + 1, by omega, rfl, by go_num, HN⟩
      | true =>
        have HP := Lib.hid (HC.out.put _ _ _ c (by rw [prs_len]; exact Nat.le_trans (List.length_filter_le _ _) (by rw [List.length_take]; omega)) HOQ.out)
        clear HOQ
        go_wp2_with (go_at_call 50; refine HP.out.mono ?_; rintro e wA ⟨rfl, hA⟩)
        have HN : Hid ((∃ ov, ObS w0 wA ⟨4, head, who, (a : Int), (b : Int), via⟩ (prs head.toNat ((L.take (j + 1)).filter (fun c => In b c))) ov) ∧ LsR wA (.slice (some ⟨gu, 0, none⟩) ln cu) L) := by
          obtain ⟨ov2, h1, h2⟩ := hA.out
          refine ⟨⟨ov2, ?_⟩, h2 _ _ HLS.out⟩
          rw [HTS.out, List.filter_append]
          have h0 : List.filter (fun c => In b c) [c] = [c] := by simp [HBV.out]
          rw [h0, prs_snoc]
          exact h1
        clear HP hA HLS HBV HTS
        go_wp2_with fail
        go_roundg (ln - (j + 1))
        case measure => omega
        case rel => exact ⟨j + 1, by omega, rfl, by go_num, HN⟩
    · have hje : j = ln := by omega
      have hjI : ¬ (j : Int) < (ln : Int) := by omega
      obtain ⟨ov, hO⟩ := HI.out.1
      rw [List.take_of_length_le (by rw [HLN.out]; omega), ← HLD.out] at hO
      obtain ⟨nn, hnn⟩ : ∃ nn, (prs head.toNat ((listTo (In a) P).filter (fun c => In b c))).length = nn := ⟨_, rfl⟩
      obtain ⟨ao9, cap9, rfl⟩ := obs_form hO hnn
      have e0 := obs_end hO
      have f0 := obs_frozen hO
      have e9 := obs_res hO
      have HF := Lib.hid (obs_fin hO)
      clear HI hO hnn
      go_wp2_with fail
      refine bodyPost_ret (v := .slice ao9 nn cap9) (by simp [results, Tryd.results39, go_sem, e9]) rfl HF.out
theorem brings_3 (hP : P ≤ 64) (hK : K ≤ 64) (a v : Nat) (hia : a < P * K) (hvK : v < K) (h : BrC w0 lb fb P K In ⟨3, head, who, (a : Int), rb0, (v : Int)⟩) :
    Calls Tryd.prog 39 #[.pointer (some ⟨lb, 0, none⟩), .agg #[.int .i64 3, .int .i64 head, .int .i64 who, .int .i64 (a : Int), .int .i64 rb0, .int .i64 (v : Int)]] w0 (BringsPost w0 (prs head.toNat ((listTo (In a) P).flatMap (fun x => listTo (In (x * K + v)) P)))) := by
  have HC := Lib.hid h
  have HO0 := Lib.hid (obs_start (w0 := w0) ⟨3, head, who, (a : Int), rb0, (v : Int)⟩)
  have hk0 := (obs_start (w0 := w0) ⟨3, head, who, (a : Int), rb0, (v : Int)⟩).rx
  have g0 : ((w0.alloc (.cells #[.int .i64 3, .int .i64 head, .int .i64 who, .int .i64 (a : Int), .int .i64 rb0, .int .i64 (v : Int)] 29)).alloc (.cells #[.slice none 0 0] 32)).cell? ⟨w0.heap.size, 0, none⟩ = some (.int .i64 3) := by rw [cell_of_heap hk0]; rfl
  have g2 : ((w0.alloc (.cells #[.int .i64 3, .int .i64 head, .int .i64 who, .int .i64 (a : Int), .int .i64 rb0, .int .i64 (v : Int)] 29)).alloc (.cells #[.slice none 0 0] 32)).cell? ⟨w0.heap.size, 2, none⟩ = some (.int .i64 who) := by rw [cell_of_heap hk0]; rfl
  clear h hk0
  go_enter Tryd.func39, Tryd.ntmps39
  go_upto_region 19 with fail
  obtain ⟨w1, hw1⟩ : ∃ w1, ((w0.alloc (.cells #[.int .i64 3, .int .i64 head, .int .i64 who, .int .i64 (a : Int), .int .i64 rb0, .int .i64 (v : Int)] 29)).alloc (.cells #[.slice none 0 0] 32)) = w1 := ⟨_, rfl⟩
  simp only [hw1] at HO0 g0 g2 ⊢
  clear hw1 g0 g2
  have H0 : (fun w' => w'.cell? ⟨lb, 0, none⟩ = some (.pointer (some ⟨fb, 0, none⟩)) ∧ w'.cell? ⟨lb, 3, none⟩ = some (.int .i64 K) ∧ w'.cell? ⟨w0.heap.size, 3, none⟩ = some (.int .i64 (a : Int)) ∧ w'.cell? ⟨w0.heap.size, 4, none⟩ = some (.int .i64 rb0) ∧ w'.cell? ⟨w0.heap.size, 5, none⟩ = some (.int .i64 (v : Int))) w1.drew := HC.out.cells _ _ _ (HO0.out.quiet ((Keeps.refl _ _).drew))
  have HLI := Lib.hid (HC.out.list w1.drew _ _ a hia (HO0.out.quiet ((Keeps.refl _ _).drew)))
  refine wp_region_noPanic ?_
  refine wp_region_held_drew (S := (fun w' => w'.cell? ⟨lb, 0, none⟩ = some (.pointer (some ⟨fb, 0, none⟩)) ∧ w'.cell? ⟨lb, 3, none⟩ = some (.int .i64 K) ∧ w'.cell? ⟨w0.heap.size, 3, none⟩ = some (.int .i64 (a : Int)) ∧ w'.cell? ⟨w0.heap.size, 4, none⟩ = some (.int .i64 rb0) ∧ w'.cell? ⟨w0.heap.size, 5, none⟩ = some (.int .i64 (v : Int)))) (by kernel_rfl) H0 (fun hHeld => ?_)
  refine wpAnyH_take_at (i := 0) (v := ?v0) rfl (by kernel_rfl) (by kernel_rfl) (by kernel_rfl) (fun _ _ _ h => h) (Or.inl ⟨by rfl, ?y0⟩) hHeld ?r0
  case y0 => (intro w hSw; (try dsimp only at hSw); go_simp; first | done | with_reducible rfl)
  (try simp only [Act.put, List.setIfInBounds_toArray, List.set_cons_zero, List.set_cons_succ])
  refine wpAnyH_take_at (i := 1) (v := ?v1) rfl (by kernel_rfl) (by kernel_rfl) (by kernel_rfl) (fun _ _ _ h => h) (Or.inl ⟨by rfl, ?y1⟩) hHeld ?r1
  case y1 => (intro w hSw; (try dsimp only at hSw); go_simp; first | done | with_reducible rfl)
  (try simp only [Act.put, List.setIfInBounds_toArray, List.set_cons_zero, List.set_cons_succ])
  refine wpAnyH_take_at (i := 2) (v := ?v2) rfl (by kernel_rfl) (by kernel_rfl) (by kernel_rfl) (fun _ _ _ h => h) (Or.inl ⟨by rfl, ?y2⟩) hHeld ?r2
  case y2 => (intro w hSw; (try dsimp only at hSw); go_simp; first | done | with_reducible rfl)
  (try simp only [Act.put, List.setIfInBounds_toArray, List.set_cons_zero, List.set_cons_succ])
  refine wpAnyH_take_at (i := 3) (v := ?v3) rfl (by kernel_rfl) (by kernel_rfl) (by kernel_rfl) (fun _ _ _ h => h) (Or.inl ⟨by rfl, ?y3⟩) hHeld ?r3
  case y3 => (intro w hSw; (try dsimp only at hSw); go_simp; first | done | with_reducible rfl)
  (try simp only [Act.put, List.setIfInBounds_toArray, List.set_cons_zero, List.set_cons_succ])
  refine wpAnyH_take_at (i := 4) (v := ?v4) rfl (by kernel_rfl) (by kernel_rfl) (by kernel_rfl) (fun _ _ _ h => h) (Or.inl ⟨by rfl, ?y4⟩) hHeld ?r4
  case y4 => (intro w hSw; (try dsimp only at hSw); go_simp; first | done | with_reducible rfl)
  (try simp only [Act.put, List.setIfInBounds_toArray, List.set_cons_zero, List.set_cons_succ])
  refine wpAnyH_take_at (i := 5) (v := ?v5) rfl (by kernel_rfl) (by kernel_rfl) (by kernel_rfl) (fun _ _ _ h => h) (Or.inl ⟨by rfl, ?y5⟩) hHeld ?r5
  case y5 => (intro w hSw; (try dsimp only at hSw); go_simp; first | done | with_reducible rfl)
  (try simp only [Act.put, List.setIfInBounds_toArray, List.set_cons_zero, List.set_cons_succ])
  refine wpAnyH_take_at (i := 8) (v := ?v8) rfl (by kernel_rfl) (by kernel_rfl) (by kernel_rfl) (fun _ _ _ h => h) (Or.inl ⟨by rfl, ?y8⟩) hHeld ?r8
  case y8 => (intro w hSw; (try dsimp only at hSw); go_simp; first | done | with_reducible rfl)
  (try simp only [Act.put, List.setIfInBounds_toArray, List.set_cons_zero, List.set_cons_succ])
  refine wpAnyH_one (i := 6) (by kernel_rfl) rfl (fun KK hK => ?_)
  go_simp
  refine HLI.out.mono ?_
  rintro e wL ⟨uL, rfl, hL⟩
  obtain ⟨au, cu, rfl, hcu, _⟩ := hL.out.2.1.reads
  go_simp
  refine hK.out _ _ ?s6 (fun hHeld => ?_)
  case s6 => exact HC.out.cells _ _ _ hL.out.1
  clear hK KK
  (try simp only [Act.put, List.setIfInBounds_toArray, List.set_cons_zero, List.set_cons_succ])
  refine wpAnyH_take_at (i := 7) (v := ?v7) rfl (by kernel_rfl) (by kernel_rfl) (by kernel_rfl) (fun _ _ _ h => h) (Or.inl ⟨by rfl, ?y7⟩) hHeld ?r7
  case y7 => (intro w hSw; (try dsimp only at hSw); go_simp; first | done | with_reducible rfl)
  (try simp only [Act.put, List.setIfInBounds_toArray, List.set_cons_zero, List.set_cons_succ])
  refine wpAnyH_done (by kernel_rfl) ?_ _
  refine NoPanic.normal ?_
  obtain ⟨L, hLd⟩ : ∃ L, listTo (In a) P = L := ⟨_, rfl⟩
  obtain ⟨ln, hln⟩ : ∃ ln, L.length = ln := ⟨_, rfl⟩
  have hl64 : ln ≤ 64 := by rw [← hln, ← hLd, listTo_len]; exact Nat.le_trans (cnt_le _ _) hP
  have HLT : Hid (∀ x ∈ L, x < P) := fun x hx => by rw [← hLd] at hx; exact (listTo_lt _ _ x hx).1
  have HOL0 := Lib.hid hL.out.1
  have hls := hL.out.2.1
  rw [hLd] at hls hcu ⊢
  rw [hln] at hls hcu ⊢
  have HLS0 := Lib.hid hls
  have HLD := Lib.hid hLd
  have HLN := Lib.hid hln
  clear hHeld HLI hL H0 HO0 hLd hln hls
  go_wp2_with fail
  go_loopg [77] ln (fun g t wy => ∃ (j : Nat), j ≤ ln ∧ g = ln - j ∧ t = .int .i64 j ∧ Hid ((∃ ov, ObS w0 wy ⟨3, head, who, (a : Int), rb0, (v : Int)⟩ (prs head.toNat ((L.take j).flatMap (fun x => listTo (In (x * K + v)) P))) ov) ∧ LsR wy (.slice au ln cu) L))
  case atStart => exact ⟨0, Nat.zero_le _, rfl, rfl, ⟨_, HOL0.out⟩, HLS0.out⟩
  case round =>
    clear HOL0 HLS0
    obtain ⟨j, hj, rfl, rfl, HI⟩ := hrel
    by_cases hlt : j < ln
    · have hjI : (j : Int) < (ln : Int) := by omega
      have hwj : IntKind.i64.wrap ((j : Int) + 1) = (j : Int) + 1 := IntWalk.i64_in _ (by omega)
      obtain ⟨c, hc⟩ : ∃ c, L[j]? = some c := ⟨_, List.getElem?_eq_getElem (by rw [HLN.out]; exact hlt)⟩
      obtain ⟨au', cu', he, _, _, hrd⟩ := HI.out.2.reads
      simp only [Value.slice.injEq] at he
      obtain ⟨rfl, -, rfl⟩ := he
      obtain ⟨gu, rfl, hgu, hcc⟩ := hrd (by rw [HLN.out]; omega)
      have cU := hcc j c hc
      have HTS := Lib.hid (take_snoc hc)
      clear hcc hrd
      obtain ⟨ov, hO⟩ := HI.out.1
      go_upto_region 22 with fail
      clear cU
      obtain ⟨xk, hxk⟩ : ∃ xk : Nat, c * K = xk := ⟨_, rfl⟩
      have hcP := HLT.out c (List.mem_of_getElem? hc)
      have hxl : xk + v < P * K := by rw [← hxk]; exact mulK_lt hcP hvK
      have hPK : P * K ≤ 64 * 64 := Nat.mul_le_mul hP hK
      have hm1 : IntKind.i64.wrap ((c : Int) * (K : Int)) = (xk : Int) := by rw [← hxk, Int.natCast_mul]; exact IntWalk.i64_in _ (by rw [← Int.natCast_mul, hxk]; omega)
      obtain ⟨ii, hii⟩ : ∃ ii : Nat, xk + v = ii := ⟨_, rfl⟩
      have hm2 : IntKind.i64.wrap ((xk : Int) + (v : Int)) = (ii : Int) := by rw [show (xk : Int) + (v : Int) = (ii : Int) by omega]; exact IntWalk.i64_in _ (by omega)
      have HII : Hid (c * K + v = ii) := by rw [hxk, hii]; rfl
      have H0 : (fun w' => w'.cell? ⟨lb, 0, none⟩ = some (.pointer (some ⟨fb, 0, none⟩)) ∧ w'.cell? ⟨lb, 3, none⟩ = some (.int .i64 K) ∧ w'.cell? ⟨w0.heap.size, 3, none⟩ = some (.int .i64 (a : Int)) ∧ w'.cell? ⟨w0.heap.size, 4, none⟩ = some (.int .i64 rb0) ∧ w'.cell? ⟨w0.heap.size, 5, none⟩ = some (.int .i64 (v : Int))) wr.drew := HC.out.cells _ _ _ (hO.quiet ((Keeps.refl _ _).drew))
      have HLI := Lib.hid (HC.out.list wr.drew _ _ ii (by omega) (hO.quiet ((Keeps.refl _ _).drew)))
      have HLS := Lib.hid (HI.out.2.quiet ((Keeps.refl _ wr).drew))
      clear hO hc HI hxk hcP hxl hPK hii
      refine wp_region_noPanic ?_
      refine wp_region_held_drew (S := (fun w' => w'.cell? ⟨lb, 0, none⟩ = some (.pointer (some ⟨fb, 0, none⟩)) ∧ w'.cell? ⟨lb, 3, none⟩ = some (.int .i64 K) ∧ w'.cell? ⟨w0.heap.size, 3, none⟩ = some (.int .i64 (a : Int)) ∧ w'.cell? ⟨w0.heap.size, 4, none⟩ = some (.int .i64 rb0) ∧ w'.cell? ⟨w0.heap.size, 5, none⟩ = some (.int .i64 (v : Int)))) (by kernel_rfl) H0 (fun hHeld => ?_)
      refine wpAnyH_take_at (i := 0) (v := ?v0b) rfl (by kernel_rfl) (by kernel_rfl) (by kernel_rfl) (fun _ _ _ h => h) (Or.inl ⟨by rfl, ?y0b⟩) hHeld ?r0b
      case y0b => (intro w hSw; (try dsimp only at hSw); go_simp; first | done | with_reducible rfl)
      (try simp only [Act.put, List.setIfInBounds_toArray, List.set_cons_zero, List.set_cons_succ])
      refine wpAnyH_take_at (i := 1) (v := ?v1b) rfl (by kernel_rfl) (by kernel_rfl) (by kernel_rfl) (fun _ _ _ h => h) (Or.inl ⟨by rfl, ?y1b⟩) hHeld ?r1b
      case y1b => (intro w hSw; (try dsimp only at hSw); go_simp; first | done | with_reducible rfl)
      (try simp only [Act.put, List.setIfInBounds_toArray, List.set_cons_zero, List.set_cons_succ])
      refine wpAnyH_take_at (i := 2) (v := ?v2b) rfl (by kernel_rfl) (by kernel_rfl) (by kernel_rfl) (fun _ _ _ h => h) (Or.inl ⟨by rfl, ?y2b⟩) hHeld ?r2b
      case y2b => (intro w hSw; (try dsimp only at hSw); go_simp; first | done | with_reducible rfl)
      (try simp only [Act.put, List.setIfInBounds_toArray, List.set_cons_zero, List.set_cons_succ])
      refine wpAnyH_take_at (i := 3) (v := ?v3b) rfl (by kernel_rfl) (by kernel_rfl) (by kernel_rfl) (fun _ _ _ h => h) (Or.inl ⟨by rfl, ?y3b⟩) hHeld ?r3b
      case y3b => (intro w hSw; (try dsimp only at hSw); go_simp; first | done | with_reducible rfl)
      (try simp only [Act.put, List.setIfInBounds_toArray, List.set_cons_zero, List.set_cons_succ])
      refine wpAnyH_take_at (i := 4) (v := ?v4b) rfl (by kernel_rfl) (by kernel_rfl) (by kernel_rfl) (fun _ _ _ h => h) (Or.inl ⟨by rfl, ?y4b⟩) hHeld ?r4b
      case y4b => (intro w hSw; (try dsimp only at hSw); go_simp; first | done | with_reducible rfl)
      (try simp only [Act.put, List.setIfInBounds_toArray, List.set_cons_zero, List.set_cons_succ])
      refine wpAnyH_take_at (i := 5) (v := ?v5b) rfl (by kernel_rfl) (by kernel_rfl) (by kernel_rfl) (fun _ _ _ h => h) (Or.inl ⟨by rfl, ?y5b⟩) hHeld ?r5b
      case y5b => (intro w hSw; (try dsimp only at hSw); go_simp; first | done | with_reducible rfl)
      (try simp only [Act.put, List.setIfInBounds_toArray, List.set_cons_zero, List.set_cons_succ])
      refine wpAnyH_take_at (i := 6) (v := ?v6b) rfl (by kernel_rfl) (by kernel_rfl) (by kernel_rfl) (fun _ _ _ h => h) (Or.inl ⟨by rfl, ?y6b⟩) hHeld ?r6b
      case y6b => (intro w hSw; (try dsimp only at hSw); go_simp; first | done | with_reducible rfl)
      (try simp only [Act.put, List.setIfInBounds_toArray, List.set_cons_zero, List.set_cons_succ])
      refine wpAnyH_take_at (i := 7) (v := ?v7b) rfl (by kernel_rfl) (by kernel_rfl) (by kernel_rfl) (fun _ _ _ h => h) (Or.inl ⟨by rfl, ?y7b⟩) hHeld ?r7b
      case y7b => (intro w hSw; (try dsimp only at hSw); go_simp; first | done | with_reducible rfl)
      (try simp only [Act.put, List.setIfInBounds_toArray, List.set_cons_zero, List.set_cons_succ])
      refine wpAnyH_take_at (i := 8) (v := ?v8b) rfl (by kernel_rfl) (by kernel_rfl) (by kernel_rfl) (fun _ _ _ h => h) (Or.inl ⟨by rfl, ?y8b⟩) hHeld ?r8b
      case y8b => (intro w hSw; (try dsimp only at hSw); go_simp; first | done | with_reducible rfl)
      (try simp only [Act.put, List.setIfInBounds_toArray, List.set_cons_zero, List.set_cons_succ])
      refine wpAnyH_take_at (i := 9) (v := ?v9b) rfl (by kernel_rfl) (by kernel_rfl) (by kernel_rfl) (fun _ _ _ h => h) (Or.inl ⟨by rfl, ?y9b⟩) hHeld ?r9b
      case y9b => (intro w hSw; (try dsimp only at hSw); go_simp; first | done | with_reducible rfl)
      (try simp only [Act.put, List.setIfInBounds_toArray, List.set_cons_zero, List.set_cons_succ])
      refine wpAnyH_take_at (i := 10) (v := ?v10b) rfl (by kernel_rfl) (by kernel_rfl) (by kernel_rfl) (fun _ _ _ h => h) (Or.inl ⟨by rfl, ?y10b⟩) hHeld ?r10b
      case y10b => (intro w hSw; (try dsimp only at hSw); go_simp; first | done | with_reducible rfl)
      (try simp only [Act.put, List.setIfInBounds_toArray, List.set_cons_zero, List.set_cons_succ])
      refine wpAnyH_take_at (i := 11) (v := ?v11b) rfl (by kernel_rfl) (by kernel_rfl) (by kernel_rfl) (fun _ _ _ h => h) (Or.inl ⟨by rfl, ?y11b⟩) hHeld ?r11b
      case y11b => (intro w hSw; (try dsimp only at hSw); go_simp; first | done | with_reducible rfl)
      (try simp only [Act.put, List.setIfInBounds_toArray, List.set_cons_zero, List.set_cons_succ])
      refine wpAnyH_take_at (i := 12) (v := ?v12b) rfl (by kernel_rfl) (by kernel_rfl) (by kernel_rfl) (fun _ _ _ h => h) (Or.inl ⟨by rfl, ?y12b⟩) hHeld ?r12b
      case y12b => (intro w hSw; (try dsimp only at hSw); go_simp; first | done | with_reducible rfl)
      (try simp only [Act.put, List.setIfInBounds_toArray, List.set_cons_zero, List.set_cons_succ])
      refine wpAnyH_take_at (i := 15) (v := ?v15b) rfl (by kernel_rfl) (by kernel_rfl) (by kernel_rfl) (fun _ _ _ h => h) (Or.inl ⟨by rfl, ?y15b⟩) hHeld ?r15b
      case y15b => (intro w hSw; (try dsimp only at hSw); go_simp; first | done | with_reducible rfl)
      (try simp only [Act.put, List.setIfInBounds_toArray, List.set_cons_zero, List.set_cons_succ])
      refine wpAnyH_one (i := 13) (by kernel_rfl) rfl (fun KK hK => ?_)
      go_simp
      refine HLI.out.mono ?_
      rintro e wM ⟨uM, rfl, hM⟩
      obtain ⟨am, cm, rfl, hcm, _⟩ := hM.out.2.1.reads
      go_simp
      refine hK.out _ _ ?s13b (fun hHeld => ?_)
      case s13b => exact HC.out.cells _ _ _ hM.out.1
      clear hK KK
      (try simp only [Act.put, List.setIfInBounds_toArray, List.set_cons_zero, List.set_cons_succ])
      refine wpAnyH_take_at (i := 14) (v := ?v14b) rfl (by kernel_rfl) (by kernel_rfl) (by kernel_rfl) (fun _ _ _ h => h) (Or.inl ⟨by rfl, ?y14b⟩) hHeld ?r14b
      case y14b => (intro w hSw; (try dsimp only at hSw); go_simp; first | done | with_reducible rfl)
      (try simp only [Act.put, List.setIfInBounds_toArray, List.set_cons_zero, List.set_cons_succ])
      refine wpAnyH_done (by kernel_rfl) ?_ _
      refine NoPanic.normal ?_
      obtain ⟨M, hMd⟩ : ∃ M, listTo (In ii) P = M := ⟨_, rfl⟩
      obtain ⟨mn, hmn⟩ : ∃ mn, M.length = mn := ⟨_, rfl⟩
      have hm64 : mn ≤ 64 := by rw [← hmn, ← hMd, listTo_len]; exact Nat.le_trans (cnt_le _ _) hP
      have HOM0 := Lib.hid hM.out.1
      have HUM0 := Lib.hid (hM.out.2.2 _ _ HLS.out)
      have hms := hM.out.2.1
      rw [hMd] at hms hcm ⊢
      rw [hmn] at hms hcm ⊢
      have HMS0 := Lib.hid hms
      have HMD := Lib.hid hMd
      have HMN := Lib.hid hmn
      clear hHeld HLI hM H0 hMd hmn hms HLS hm1 hm2
      go_wp2_with fail
      go_loopg [96] mn (fun g t wy => ∃ (i : Nat), i ≤ mn ∧ g = mn - i ∧ t = .int .i64 i ∧ Hid ((∃ ov, ObS w0 wy ⟨3, head, who, (a : Int), rb0, (v : Int)⟩ (prs head.toNat ((L.take j).flatMap (fun x => listTo (In (x * K + v)) P) ++ M.take i)) ov) ∧ LsR wy (.slice am mn cm) M ∧ LsR wy (.slice (some ⟨gu, 0, none⟩) ln cu) L))
      case atStart => exact ⟨0, Nat.zero_le _, rfl, rfl, ⟨ov, by rw [List.take_zero, List.append_nil]; exact HOM0.out⟩, HMS0.out, HUM0.out⟩
      case round =>
        clear HOM0 HMS0 HUM0
        obtain ⟨i, hi, rfl, rfl, HJ⟩ := hrel
        by_cases hlt3 : i < mn
        · have hiI : (i : Int) < (mn : Int) := by omega
          have hwi : IntKind.i64.wrap ((i : Int) + 1) = (i : Int) + 1 := IntWalk.i64_in _ (by omega)
          obtain ⟨d, hd⟩ : ∃ d, M[i]? = some d := ⟨_, List.getElem?_eq_getElem (by rw [HMN.out]; exact hlt3)⟩
          obtain ⟨am', cm', he, _, _, hrd⟩ := HJ.out.2.1.reads
          simp only [Value.slice.injEq] at he
          obtain ⟨rfl, -, rfl⟩ := he
          obtain ⟨gm, rfl, hgm, hcc⟩ := hrd (by rw [HMN.out]; omega)
          have cM := hcc i d hd
          have HTD := Lib.hid (take_snoc hd)
          obtain ⟨ov3, hO3⟩ := HJ.out.1
          have HP := Lib.hid (HC.out.put _ _ _ d (by
            rw [prs_len, List.length_append, List.length_take]
            have := flat_len (P := P) (fun x => In (x * K + v)) (L.take j)
            have h2 : (L.take j).length ≤ 64 := by rw [List.length_take]; omega
            have h3 : (L.take j).length * P ≤ 64 * 64 := Nat.mul_le_mul h2 hP
            omega) hO3)
          have HLS := Lib.hid HJ.out.2
          clear hO3 hd hcc hrd HJ
          go_wp2_with (go_at_call 50; refine HP.out.mono ?_; rintro e wA ⟨rfl, hA⟩)
          have HN : Hid ((∃ ov, ObS w0 wA ⟨3, head, who, (a : Int), rb0, (v : Int)⟩ (prs head.toNat ((L.take j).flatMap (fun x => listTo (In (x * K + v)) P) ++ M.take (i + 1))) ov) ∧ LsR wA (.slice (some ⟨gm, 0, none⟩) mn cm) M ∧ LsR wA (.slice (some ⟨gu, 0, none⟩) ln cu) L) := by
            obtain ⟨ov2, h1, h2⟩ := hA.out
            exact ⟨⟨ov2, by rw [HTD.out, ← List.append_assoc, prs_snoc]; exact h1⟩, h2 _ _ HLS.out.1, h2 _ _ HLS.out.2⟩
          clear HP hA HLS cM HTD
          go_wp2_with fail
          go_roundg (mn - (i + 1))
          case measure => omega
          case rel => exact ⟨i + 1, by omega, rfl, by go_num, HN⟩
        · have hie : i = mn := by omega
          have hiI : ¬ (i : Int) < (mn : Int) := by omega
          have HN : Hid ((∃ ov, ObS w0 wr ⟨3, head, who, (a : Int), rb0, (v : Int)⟩ (prs head.toNat ((L.take (j + 1)).flatMap (fun x => listTo (In (x * K + v)) P))) ov) ∧ LsR wr (.slice (some ⟨gu, 0, none⟩) ln cu) L) := by
            obtain ⟨ov2, h1⟩ := HJ.out.1
            refine ⟨⟨ov2, ?_⟩, HJ.out.2.2⟩
            rw [show M.take i = M from List.take_of_length_le (by rw [HMN.out]; omega)] at h1
            rw [HTS.out, List.flatMap_append]
            have h0 : List.flatMap (fun x => listTo (In (x * K + v)) P) [c] = M := by simp [HII.out, HMD.out]
            rw [h0]
            exact h1
          clear HJ HMD HMN
          go_wp2_with fail
          go_roundg (ln - (j + 1))
          case measure => omega
          case rel => exact ⟨j + 1, by omega, rfl, by go_num, HN⟩
    · have hje : j = ln := by omega
      have hjI : ¬ (j : Int) < (ln : Int) := by omega
      obtain ⟨ov, hO⟩ := HI.out.1
      rw [List.take_of_length_le (by rw [HLN.out]; omega), ← HLD.out] at hO
      obtain ⟨nn, hnn⟩ : ∃ nn, (prs head.toNat ((listTo (In a) P).flatMap (fun x => listTo (In (x * K + v)) P))).length = nn := ⟨_, rfl⟩
      obtain ⟨ao9, cap9, rfl⟩ := obs_form hO hnn
      have e0 := obs_end hO
      have f0 := obs_frozen hO
      have e9 := obs_res hO
      have HF := Lib.hid (obs_fin hO)
      clear HI hO hnn
      go_wp2_with fail
      refine bodyPost_ret (v := .slice ao9 nn cap9) (by simp [results, Tryd.results39, go_sem, e9]) rfl HF.out
theorem brings_spec {z : Nat} {bw : Nat} {rb : Nat → Nat} {v : Value} {tot : Nat} {rs : List Rl} (h : LvMem z w0 lb fb bw rb P K v In tot rs) (hT : TabIn w0) {r : Rl} (hR : rightB P K r = true) :
    Calls Tryd.prog 39 #[.pointer (some ⟨lb, 0, none⟩), .agg #[.int .i64 r.kind, .int .i64 r.head, .int .i64 r.who, .int .i64 r.a, .int .i64 r.b, .int .i64 r.via]] w0 (BringsPost w0 (prs r.head.toNat (bringsL P K r In))) := by
  have hC := brC_of h hT hR
  obtain ⟨_, hk⟩ := right_iff hR
  obtain ⟨kind, head, who, ra, rb0, via⟩ := r
  simp only [] at hk ⊢
  unfold bringsL
  simp only []
  rcases hk with ⟨rfl, w0', _⟩ | ⟨rfl, a0, a1⟩ | ⟨rfl, a0, a1, v0, v1⟩ | ⟨rfl, a0, a1, b0, b1⟩
  · rw [if_pos rfl]
    exact brings_1 hC w0'
  · rw [if_neg (by decide), if_pos rfl]
    obtain ⟨a, rfl⟩ : ∃ a : Nat, ra = a := ⟨ra.toNat, by omega⟩
    exact brings_2 h.hP a (by omega) hC
  · rw [if_neg (by decide), if_neg (by decide), if_neg (by decide)]
    obtain ⟨a, rfl⟩ : ∃ a : Nat, ra = a := ⟨ra.toNat, by omega⟩
    obtain ⟨v, rfl⟩ : ∃ v : Nat, via = v := ⟨via.toNat, by omega⟩
    exact brings_3 h.hP h.hK a v (by omega) (by omega) hC
  · rw [if_neg (by decide), if_neg (by decide), if_pos rfl]
    obtain ⟨a, rfl⟩ : ∃ a : Nat, ra = a := ⟨ra.toNat, by omega⟩
    obtain ⟨b, rfl⟩ : ∃ b : Nat, rb0 = b := ⟨rb0.toNat, by omega⟩
    exact brings_4 h.hP a b (by omega) (by omega) hC
end
end Go.Proofs.YtaabmkebbnkonaaDoor
