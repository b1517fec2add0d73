/-
  The walk of the law SemGrows.
-/
import Derived.Test.YtmljmpjpdgijlaaDoorSemModel
import Derived.Deep.RegionHeld3
import Derived.Deep.QuietTactic
set_option linter.unusedVariables false
set_option linter.unusedSimpArgs false
set_option linter.unnecessarySimpa false
namespace Go.Proofs.YtmljmpjpdgijlaaDoor
open Go.ChangeShapes Go.WideShapes Go.ChangeAt Go.RowKit Go.Deep SetPlain
/-- What the call has made so far: the box of its two numbers is as it was. -/
structure GrowW (w : World) (d0 d1 : Int) (W : World) : Prop where
  base : Below w.heap.size w W
  c0 : W.cell? ⟨w.heap.size, 0, none⟩ = some (.int .i64 d0)
  c1 : W.cell? ⟨w.heap.size, 1, none⟩ = some (.int .i64 d1)
theorem GrowW.move {w W W' : World} {d0 d1 : Int} (h : GrowW w d0 d1 W) {S : Nat → Prop} (hk : Keeps S W W') (hs : ∀ k, S k → w.heap.size < k) : GrowW w d0 d1 W' := by
  have hx := lt_of_cell h.c0
  have hn : ¬ S w.heap.size := fun x => by have := hs _ x; omega
  exact ⟨h.base.trans (hk.below h.base.size (fun k hk x => by have := hs _ x; omega)), (hk.cell (p := ⟨w.heap.size, 0, none⟩) hx hn).trans h.c0, (hk.cell (p := ⟨w.heap.size, 1, none⟩) hx hn).trans h.c1⟩
theorem GrowW.quiet {w W W' : World} {d0 d1 : Int} (h : GrowW w d0 d1 W) (hk : Keeps (fun _ => False) W W') : GrowW w d0 d1 W' := h.move hk (fun _ x => x.elim)
/-- The row of rules turned round and doubled, on its way. -/
structure BackAt (w : World) (d0 d1 : Int) (rs : List Rl) (j : Nat) (v : Value) (W : World) : Prop where
  gw : GrowW w d0 d1 W
  row : TailRow W 43 6 v (backTo rs j).length (rlCells (backTo rs j))
  own : ∀ k, v.ownBlock = some k → w.heap.size < k
theorem BackAt.grow {w W W1 W2 : World} {d0 d1 : Int} {rs : List Rl} {j : Nat} {v v' : Value} (h : BackAt w d0 d1 rs j v W) (h1 : Keeps (fun _ => False) W W1) (hrow : TailRow W2 43 6 v' (backTo rs (j + 1)).length (rlCells (backTo rs (j + 1)))) (hg : W1.grownBy W2 v.ownBlock) (hfp : ∀ k, v'.ownBlock = some k → v.ownBlock = some k ∨ W1.heap.size ≤ k) : BackAt w d0 d1 rs (j + 1) v' W2 := by
  have g1 := h.gw.quiet h1
  refine ⟨g1.move (keeps_grown hg) (fun k x => h.own k x), hrow, fun k hk => ?_⟩
  rcases hfp k hk with x | x
  · exact h.own k x
  · have := lt_of_cell g1.c0
    exact Nat.lt_of_lt_of_le this x
def ModelOf (mo P K : Nat) (rs : List Rl) (W : World) : Prop := ∃ fb bw rb tot steps In, Mdl mo fb bw rb P K tot steps In W ∧ ∀ i c, In i c = true ↔ Der K (rs.filter (fun r => rightB P K r)) i c
theorem ModelOf.keeps {mo P K : Nat} {rs : List Rl} {W W' : World} (h : ModelOf mo P K rs W) (hk : Keeps (fun _ => False) W W') : ModelOf mo P K rs W' := by
  obtain ⟨fb, bw, rb, tot, steps, In, hm, hd⟩ := h
  exact ⟨fb, bw, rb, tot, steps, In, hm.keeps hk, hd⟩
set_option maxRecDepth 100000 in
set_option maxHeartbeats 3200000 in
theorem semGrows_any (w : World) (d0 d1 : Int) (ao : Option Addr) (n cap : Nat) (rs : List Rl) (hrs : rs.length = n) (hcap : n ≤ cap) (hR : RuleRow w ao rs) (ao2 : Option Addr) (n2 cap2 : Nat) (ms : List Rl) (hms : ms.length = n2) (hcap2 : n2 ≤ cap2) (hM : RuleRow w ao2 ms) (hT : TabIn w) :
    Calls Tryd.prog 5 #[.agg #[.int .i64 d0, .int .i64 d1], .slice ao n cap, .slice ao2 n2 cap2] w fun e w' => e = .returned (.bool true) ∧ Below w.heap.size w w' := by
  have hk0 : Keeps (fun _ => False) w (w.alloc (.cells #[.int .i64 d0, .int .i64 d1] 27)) := (Keeps.refl _ _).alloc _
  have hT0 := hT.keeps hk0 (fun x => x)
  have HS := Lib.hid (ssmall_spec d0 d1 ao n cap (w.alloc (.cells #[.int .i64 d0, .int .i64 d1] 27)))
  by_cases hsm : (d0 ≤ 10 ∧ d1 ≤ 6 ∧ n ≤ 60) ∧ n ≤ 30 ∧ n2 ≤ 30
  · obtain ⟨hs0, hs1, hs2⟩ := hsm
    rw [decide_eq_true hs0] at HS
    have HB0 : Hid (BackAt w d0 d1 rs 0 (.slice none 0 0) (w.alloc (.cells #[.int .i64 d0, .int .i64 d1] 27))) := ⟨⟨(Below.refl _ _).alloc (Nat.le_refl _) _, by simp, by simp⟩, TailRow.nil _ _ _, fun k hk => by cases hk⟩
    have hs1I : ¬ (30 : Int) < (n : Int) := by omega
    have hs2I : ¬ (30 : Int) < (n2 : Int) := by omega
    have HR := Lib.hid hR
    have HM := Lib.hid hM
    have HT := Lib.hid hT
    clear hk0 hT0 hR hM hT
    go_enter Tryd.func5, Tryd.ntmps5
    go_wp2_with fail
    refine HS.out.mono ?_
    rintro e w' ⟨rfl, rfl⟩
    clear HS
    go_wp2_with fail
    go_loopg [7, 35] n (fun g s t wr => ∃ (j : Nat) (ao' : Option Addr) (cap' : Nat), j ≤ n ∧ g = n - j ∧ s = .slice ao' (2 * j) cap' ∧ t = .int .i64 j ∧ Hid (BackAt w d0 d1 rs j (.slice ao' (2 * j) cap') wr))
    case atStart => exact ⟨0, none, 0, Nat.zero_le _, rfl, rfl, rfl, HB0.out⟩
    case round =>
      clear HB0
      obtain ⟨j, aob, capb, hj, rfl, rfl, rfl, hat⟩ := hrel
      by_cases hlt : j < n
      · obtain ⟨q, hq⟩ : ∃ q, n - 1 - j = q := ⟨_, rfl⟩
        obtain ⟨m, hm⟩ : ∃ m, n - 1 = m := ⟨_, rfl⟩
        obtain ⟨r1, hr1⟩ : ∃ r, rs[q]? = some r := ⟨_, List.getElem?_eq_getElem (by omega)⟩
        obtain ⟨r2, hr2⟩ : ∃ r, rs[j]? = some r := ⟨_, List.getElem?_eq_getElem (by omega)⟩
        have f1 : IntKind.i64.wrap ((n : Int) - 1) = (m : Int) := (IntWalk.i64_in _ (by omega)).trans (by omega)
        have f2 : IntKind.i64.wrap ((m : Int) - (j : Int)) = (q : Int) := (IntWalk.i64_in _ (by omega)).trans (by omega)
        have hqI : (q : Int) < (n : Int) := by omega
        have hjI : (j : Int) < (n : Int) := by omega
        have hback : backTo rs (j + 1) = backTo rs j ++ [r1, r2] := by rw [backTo, hrs, hq, hr1, hr2]; rfl
        have hrow := HR.out.keeps hat.out.gw.base (fun _ _ _ h => h)
        obtain ⟨bb, off, rfl, hbl, hc⟩ := hrow (by omega)
        obtain ⟨a0, a1, a2, a3, a4, a5⟩ := hc q r1 hr1
        obtain ⟨b0, b1, b2, b3, b4, b5⟩ := hc j r2 hr2
        have Hrow : Hid (∀ W, Keeps (fun _ => False) wr W → TailRow W 43 6 (.slice aob (2 * j) capb) (backTo rs j).length (rlCells (backTo rs j))) := fun W hk => hat.out.row.keeps hk (fun _ _ x => x)
        have HG : Hid (∀ W1 W2 ao' cap', Keeps (fun _ => False) wr W1 → TailRow W2 43 6 (.slice ao' (2 * (j + 1)) cap') (backTo rs j ++ [r1, r2]).length (rlCells (backTo rs j ++ [r1, r2])) → W1.grownBy W2 (Value.slice aob (2 * j) capb).ownBlock → (∀ k, (Value.slice ao' (2 * (j + 1)) cap').ownBlock = some k → (Value.slice aob (2 * j) capb).ownBlock = some k ∨ W1.heap.size ≤ k) →
            (W2.cell? ⟨bb, off + q * 6, none⟩ = some (.int .i64 r1.kind) ∧ W2.cell? ⟨bb, off + q * 6 + 1, none⟩ = some (.int .i64 r1.head) ∧ W2.cell? ⟨bb, off + q * 6 + 2, none⟩ = some (.int .i64 r1.who) ∧ W2.cell? ⟨bb, off + q * 6 + 3, none⟩ = some (.int .i64 r1.a) ∧ W2.cell? ⟨bb, off + q * 6 + 4, none⟩ = some (.int .i64 r1.b) ∧ W2.cell? ⟨bb, off + q * 6 + 5, none⟩ = some (.int .i64 r1.via) ∧ W2.cell? ⟨bb, off + j * 6, none⟩ = some (.int .i64 r2.kind) ∧ W2.cell? ⟨bb, off + j * 6 + 1, none⟩ = some (.int .i64 r2.head) ∧ W2.cell? ⟨bb, off + j * 6 + 2, none⟩ = some (.int .i64 r2.who) ∧ W2.cell? ⟨bb, off + j * 6 + 3, none⟩ = some (.int .i64 r2.a) ∧ W2.cell? ⟨bb, off + j * 6 + 4, none⟩ = some (.int .i64 r2.b) ∧ W2.cell? ⟨bb, off + j * 6 + 5, none⟩ = some (.int .i64 r2.via)) ∧ Hid (BackAt w d0 d1 rs (j + 1) (.slice ao' (2 * (j + 1)) cap') W2)) := fun W1 W2 ao' cap' k1 h1 h2 h3 => by
          rw [← hback] at h1
          have hg := hat.out.grow k1 h1 h2 h3
          have hrow := HR.out.keeps hg.gw.base (fun _ _ _ h => h)
          obtain ⟨bb', off', he, _, hc⟩ := hrow (by omega)
          cases he
          obtain ⟨a0, a1, a2, a3, a4, a5⟩ := hc q r1 hr1
          obtain ⟨b0, b1, b2, b3, b4, b5⟩ := hc j r2 hr2
          exact ⟨⟨a0, a1, a2, a3, a4, a5, b0, b1, b2, b3, b4, b5⟩, hg⟩
        have HBL := Lib.hid hbl
        clear hrow hc hat hback hr1 hr2 hq hm hbl
        go_upto_region 7 with fail
        go_region_held3 (fun w' => w'.cell? ⟨bb, off + q * 6, none⟩ = some (.int .i64 r1.kind) ∧ w'.cell? ⟨bb, off + q * 6 + 1, none⟩ = some (.int .i64 r1.head) ∧ w'.cell? ⟨bb, off + q * 6 + 2, none⟩ = some (.int .i64 r1.who) ∧ w'.cell? ⟨bb, off + q * 6 + 3, none⟩ = some (.int .i64 r1.a) ∧ w'.cell? ⟨bb, off + q * 6 + 4, none⟩ = some (.int .i64 r1.b) ∧ w'.cell? ⟨bb, off + q * 6 + 5, none⟩ = some (.int .i64 r1.via) ∧ w'.cell? ⟨bb, off + j * 6, none⟩ = some (.int .i64 r2.kind) ∧ w'.cell? ⟨bb, off + j * 6 + 1, none⟩ = some (.int .i64 r2.head) ∧ w'.cell? ⟨bb, off + j * 6 + 2, none⟩ = some (.int .i64 r2.who) ∧ w'.cell? ⟨bb, off + j * 6 + 3, none⟩ = some (.int .i64 r2.a) ∧ w'.cell? ⟨bb, off + j * 6 + 4, none⟩ = some (.int .i64 r2.b) ∧ w'.cell? ⟨bb, off + j * 6 + 5, none⟩ = some (.int .i64 r2.via)) (first | assumption | go_keep) (first | (refine step_append_rules rfl (.tmp 38) (.tmp 51) rfl (.slice aob (2 * j) capb) (backTo rs j) (by simp [Act.eval, Act.put]) (Hrow.out _ (((Keeps.refl _ _).drew).alloc _)) (some ⟨wr.heap.size, 0, none⟩) 2 2 [r1, r2] rfl (by simp [Act.eval, Act.put]) (two_row wr r1 r2) (2 * (j + 1)) (by rw [List.length_append, backTo_length]; simp; omega) (by omega) ?_; intro ao' cap' w2 hown hgrow hfp; obtain ⟨e1, HP⟩ := HG.out _ _ _ _ (((Keeps.refl _ _).drew).alloc _) hown hgrow hfp; clear hown hgrow hfp))
        go_wp2_with fail
        go_roundg (n - (j + 1))
        case measure => omega
        case rel => exact ⟨j + 1, _, _, by omega, rfl, rfl, by go_num, HP⟩
      · obtain rfl : j = n := by omega
        obtain ⟨P, hP⟩ := within_cases d0 64
        obtain ⟨K, hK⟩ := within_cases d1 64
        have hPl : P ≤ 10 := by unfold Within at hP; omega
        have hKl : K ≤ 6 := by unfold Within at hK; omega
        have hgw := hat.out.gw
        obtain ⟨aobx, capbx, hbe, hble, _, hbrow⟩ := hat.out.row.rules
        rw [backTo_length] at hbe hble
        cases hbe
        obtain ⟨n3, hn3⟩ : ∃ n3, j + n2 = n3 := ⟨_, rfl⟩
        have hn3' : (rs ++ ms).length = n3 := by rw [List.length_append, hrs, hms, hn3]
        have HKS : Hid (∀ W, Keeps (fun _ => False) wr W → (fun w' => w'.cell? ⟨w.heap.size, 0, none⟩ = some (.int .i64 d0) ∧ w'.cell? ⟨w.heap.size, 1, none⟩ = some (.int .i64 d1)) W) := fun W hk => ⟨(hgw.quiet hk).c0, (hgw.quiet hk).c1⟩
        have HKR : Hid (∀ W, Keeps (fun _ => False) wr W → RuleRow W ao rs) := fun W hk => HR.out.keeps (hgw.quiet hk).base (fun _ _ _ h => h)
        have HKM : Hid (∀ W, Keeps (fun _ => False) wr W → RuleRow W ao2 ms) := fun W hk => HM.out.keeps (hgw.quiet hk).base (fun _ _ _ h => h)
        have HKT : Hid (∀ W, Keeps (fun _ => False) wr W → TabIn W) := fun W hk => HT.out.below (hgw.quiet hk).base HT.out.lt
        have HKB : Hid (∀ W, Keeps (fun _ => False) wr W → RuleRow W aob (backTo rs j)) := fun W hk => hbrow.keeps (hk.below (Nat.le_refl _) (fun _ _ x => x)) (fun _ _ _ h => h)
        have HBASE : Hid (∀ W, Keeps (fun _ => False) wr W → Below w.heap.size w W) := fun W hk => (hgw.quiet hk).base
        have HE1 : Hid (∀ W, Hid (Keeps (fun _ => False) wr W) → Calls Tryd.prog 29 #[.int .i64 d0, .int .i64 d1, .slice ao j cap] W fun e W' => ∃ mo, e = .returned (.pointer (some ⟨mo, 0, none⟩)) ∧ Hid (ModelOf mo P K rs W') ∧ Hid (Keeps (fun _ => False) wr W') ∧ Hid (Keeps (fun _ => False) W W')) := fun W hk =>
          (eval_keep hP hK hrs (by omega) hcap (Keeps.refl _ W) (HKR.out W hk.out) (HKT.out W hk.out)).mono fun e W' ⟨mo, he, hm, hk2⟩ => ⟨mo, he, hm, hk.out.trans hk2.out, hk2⟩
        have HE2 : Hid (∀ W, Hid (Keeps (fun _ => False) wr W) → Calls Tryd.prog 29 #[.int .i64 d0, .int .i64 d1, .slice aob (2 * j) capb] W fun e W' => ∃ mo, e = .returned (.pointer (some ⟨mo, 0, none⟩)) ∧ Hid (ModelOf mo P K (backTo rs j) W') ∧ Hid (Keeps (fun _ => False) wr W') ∧ Hid (Keeps (fun _ => False) W W')) := fun W hk =>
          (eval_keep hP hK (backTo_length rs j) (by omega) hble (Keeps.refl _ W) (HKB.out W hk.out) (HKT.out W hk.out)).mono fun e W' ⟨mo, he, hm, hk2⟩ => ⟨mo, he, hm, hk.out.trans hk2.out, hk2⟩
        have HE3 : Hid (∀ aox capx wB W, Hid (Keeps (fun _ => False) wr wB) → Hid (Keeps (fun _ => False) wB W) → Hid (TailRow W 43 6 (.slice aox n3 capx) (rs ++ ms).length (rlCells (rs ++ ms))) → Calls Tryd.prog 29 #[.int .i64 d0, .int .i64 d1, .slice aox n3 capx] W fun e W' => ∃ mo, e = .returned (.pointer (some ⟨mo, 0, none⟩)) ∧ Hid (ModelOf mo P K (rs ++ ms) W') ∧ Hid (Keeps (fun _ => False) wB W')) := fun aox capx wB W hk0 hk hrow => by
          obtain ⟨ao', cap', he, hle, _, hrr⟩ := hrow.out.rules
          rw [hn3'] at he hle
          cases he
          exact (eval_keep hP hK hn3' (by omega) hle (Keeps.refl _ W) hrr (HKT.out W (hk0.out.trans hk.out))).mono fun e W' ⟨mo, he, hm, hk2⟩ => ⟨mo, he, hm, hk.out.trans hk2.out⟩
        have HWI := Lib.hid (And.intro hP hK)
        have HK0 : Hid (Keeps (fun _ => False) wr wr.drew) := (Keeps.refl _ _).drew
        have hS0 := HKS.out wr (Keeps.refl _ _)
        clear hat hgw hbrow hP hK HR HM HT
        go_upto_region 9 with fail
        go_region_held3 (fun w' => w'.cell? ⟨w.heap.size, 0, none⟩ = some (.int .i64 d0) ∧ w'.cell? ⟨w.heap.size, 1, none⟩ = some (.int .i64 d1)) (exact HKS.out _ (by assumption)) (first | (go_at_call_of 29 (Value.slice ao j cap); refine (HE1.out _ (by assumption)).mono ?_; rintro e wA ⟨moa, rfl, hma, hka, hkx⟩) | (go_at_call 29; refine (HE2.out _ (by assumption)).mono ?_; rintro e wB ⟨mob, rfl, hmb, hkb, hky⟩))
        have hma2 : Hid (ModelOf moa P K rs wB) := hma.out.keeps hky.out
        clear hma hka hkx hky HE1 HE2 HKB HK0
        have HKD : Hid (Keeps (fun _ => False) wB wB.drew) := (Keeps.refl _ _).drew
        have HKN : Hid (Keeps (fun _ => False) wB (wB.alloc (.cells #[] 43)).drew) := ((Keeps.refl _ _).alloc _).drew
        have HKS2 : Hid (∀ W, Hid (Keeps (fun _ => False) wB W) → (fun w' => w'.cell? ⟨w.heap.size, 0, none⟩ = some (.int .i64 d0) ∧ w'.cell? ⟨w.heap.size, 1, none⟩ = some (.int .i64 d1)) W) := fun W hk => HKS.out W (hkb.out.trans hk.out)
        have HER : Hid (TailRow (wB.alloc (.cells #[] 43)).drew 43 6 (.slice (some ⟨wB.heap.size, 0, none⟩) 0 0) ([] : List Rl).length (rlCells [])) := empty_row wB
        have HRR : Hid (∀ W, Hid (Keeps (fun _ => False) wB W) → RuleRow W ao rs) := fun W hk => HKR.out W (hkb.out.trans hk.out)
        have HRM : Hid (∀ W, Hid (Keeps (fun _ => False) wB W) → RuleRow W ao2 ms) := fun W hk => HKM.out W (hkb.out.trans hk.out)
        have HG1 : Hid (∀ ao' cap' W2, TailRow W2 43 6 (.slice ao' j cap') ([] ++ rs).length (rlCells ([] ++ rs)) → ((wB.alloc (.cells #[] 43)).drew).grownBy W2 (Value.slice (some ⟨wB.heap.size, 0, none⟩) 0 0).ownBlock → (∀ k, (Value.slice ao' j cap').ownBlock = some k → (Value.slice (some ⟨wB.heap.size, 0, none⟩) 0 0).ownBlock = some k ∨ (wB.alloc (.cells #[] 43)).drew.heap.size ≤ k) →
            Hid (Keeps (fun _ => False) wB W2) ∧ Hid (TailRow W2 43 6 (.slice ao' j cap') rs.length (rlCells rs) ∧ ∀ k, (Value.slice ao' j cap').ownBlock = some k → wB.heap.size ≤ k)) := fun ao' cap' W2 h1 h2 h3 => by
          refine ⟨HKN.out.trans_new (keeps_grown h2) (fun i hi x => ?_), h1, fun k hk => ?_⟩
          · simp only [Value.ownBlock, Option.some.injEq] at x; omega
          · rcases h3 k hk with x | x
            · simp only [Value.ownBlock, Option.some.injEq] at x; omega
            · have := HKN.out.size; omega
        have HG2 : Hid (∀ aoA capA W2 ao' cap' W3, Hid (Keeps (fun _ => False) wB W2) → Hid (TailRow W2 43 6 (.slice aoA j capA) rs.length (rlCells rs) ∧ ∀ k, (Value.slice aoA j capA).ownBlock = some k → wB.heap.size ≤ k) → TailRow W3 43 6 (.slice ao' n3 cap') (rs ++ ms).length (rlCells (rs ++ ms)) → W2.grownBy W3 (Value.slice aoA j capA).ownBlock →
            Hid (Keeps (fun _ => False) wB W3) ∧ Hid (TailRow W3 43 6 (.slice ao' n3 cap') (rs ++ ms).length (rlCells (rs ++ ms)))) := fun aoA capA W2 ao' cap' W3 h0 h1 h2 h3 => by
          refine ⟨h0.out.trans_new (keeps_grown h3) (fun i hi x => ?_), h2⟩
          have := h1.out.2 i x
          omega
        clear HKR HKM HKS
        go_upto_region 10 with fail
        go_region_held3 (fun w' => w'.cell? ⟨w.heap.size, 0, none⟩ = some (.int .i64 d0) ∧ w'.cell? ⟨w.heap.size, 1, none⟩ = some (.int .i64 d1)) (first | exact HKS2.out _ HKD | exact HKS2.out _ HKN | exact HKS2.out _ (by assumption)) (first | (refine step_append_rules rfl (.tmp 70) (.tmp 71) rfl (.slice (some ⟨wB.heap.size, 0, none⟩) 0 0) [] (by simp [Act.eval, Act.put]) HER.out ao cap j rs hrs (by simp [Act.eval, Act.put]) (HRR.out _ HKN) j (by simpa using hrs) (by omega) ?_; intro aoA capA wA2 hown hgrow hfp; obtain ⟨HK1, HT1⟩ := HG1.out _ _ _ hown hgrow hfp; clear hown hgrow hfp) | (refine step_append_rules rfl (.tmp 72) (.tmp 73) rfl (.slice aoA j capA) rs (by simp [Act.eval, Act.put]) HT1.out.1 ao2 cap2 n2 ms hms (by simp [Act.eval, Act.put]) (HRM.out _ HK1) n3 hn3' (by omega) ?_; intro aoB capB wA3 hown hgrow hfp; obtain ⟨HK2, HT2⟩ := HG2.out _ _ _ _ _ _ HK1 HT1 hown hgrow; clear hown hgrow hfp) | (go_at_call 29; refine (HE3.out aoB capB wB wA3 hkb HK2 HT2).mono ?_; rintro e wC ⟨moc, rfl, hmc, hkc⟩))
        obtain ⟨fba, bwa, rba, ta, sa, Ina, hMa, hDa⟩ := hma2.out.keeps hkc.out
        obtain ⟨fbb, bwb, rbb, tb, sb, Inb, hMb, hDb⟩ := hmb.out.keeps hkc.out
        obtain ⟨fbc, bwc, rbc, tc, sc, Inc, hMc, hDc⟩ := hmc.out
        have hab : Inb = Ina := by
          funext i c
          have h1 : Inb i c = true ↔ Ina i c = true := by
            rw [hDa, hDb]
            exact ⟨fun d => d.right_mono fun r hr => (backTo_sub rs j (by omega) r hr), fun d => d.right_mono fun r hr => by rw [← hrs]; exact (backTo_mem rs r).2 hr⟩
          cases h2 : Inb i c with
          | true => exact (h1.1 h2).symm
          | false => cases h3 : Ina i c with
            | true => rw [h1.2 h3] at h2; cases h2
            | false => rfl
        subst hab
        obtain ⟨N, hN⟩ : ∃ N, P * K = N := ⟨_, rfl⟩
        have hac : ∀ i c, Inb i c = true → Inc i c = true := fun i c h => (hDc i c).2 (((hDa i c).1 h).right_mono fun r hr => List.mem_append_left _ hr)
        have HTC : Hid (∀ W, Hid (Keeps (fun _ => False) wC W) → TabIn W) := fun W hk => HKT.out W (hkb.out.trans (hkc.out.trans hk.out))
        have HBC : Hid (∀ W, Hid (Keeps (fun _ => False) wC W) → Below w.heap.size w W) := fun W hk => HBASE.out W (hkb.out.trans (hkc.out.trans hk.out))
        have HLA : Hid (∀ W, Hid (Keeps (fun _ => False) wC W) → ∀ r : Nat, Calls Tryd.prog 30 #[.pointer (some ⟨moa, 0, none⟩), .int .i64 r] W fun e W' => ∃ ao' cap', e = .returned (.slice ao' (listTo (rowP N Inb r) P).length cap') ∧ Hid (ReadsL W' (.slice ao' (listTo (rowP N Inb r) P).length cap') (listTo (rowP N Inb r) P)) ∧ Hid (Keeps (fun _ => False) wC W') ∧ Hid (Keeps (fun _ => False) W W')) := fun W hk r => by
          have := (hMa.keeps hk.out).list_spec (HTC.out W hk) r
          rw [hN] at this
          refine this.mono ?_
          rintro e W' ⟨v, rfl, hr, hb⟩
          have hr2 := hr
          obtain ⟨ao', cap', rfl, _⟩ := hr2
          exact ⟨ao', cap', rfl, hr, hk.out.trans (Keeps.of_below hb (Nat.le_refl _)), Keeps.of_below hb (Nat.le_refl _)⟩
        have HLB : Hid (∀ W, Hid (Keeps (fun _ => False) wC W) → ∀ r : Nat, Calls Tryd.prog 30 #[.pointer (some ⟨mob, 0, none⟩), .int .i64 r] W fun e W' => ∃ ao' cap', e = .returned (.slice ao' (listTo (rowP N Inb r) P).length cap') ∧ Hid (ReadsL W' (.slice ao' (listTo (rowP N Inb r) P).length cap') (listTo (rowP N Inb r) P)) ∧ Hid (Keeps (fun _ => False) wC W') ∧ Hid (Keeps (fun _ => False) W W')) := fun W hk r => by
          have := (hMb.keeps hk.out).list_spec (HTC.out W hk) r
          rw [hN] at this
          refine this.mono ?_
          rintro e W' ⟨v, rfl, hr, hb⟩
          have hr2 := hr
          obtain ⟨ao', cap', rfl, _⟩ := hr2
          exact ⟨ao', cap', rfl, hr, hk.out.trans (Keeps.of_below hb (Nat.le_refl _)), Keeps.of_below hb (Nat.le_refl _)⟩
        have HIC : Hid (∀ W, Hid (Keeps (fun _ => False) wC W) → ∀ r x : Nat, r < N → x ∈ listTo (rowP N Inb r) P → Calls Tryd.prog 31 #[.pointer (some ⟨moc, 0, none⟩), .int .i64 r, .int .i64 x] W fun e W' => e = .returned (.bool true) ∧ W = W') := fun W hk r x hr hx => by
          obtain ⟨h1, h2⟩ := listTo_lt _ _ _ hx
          rw [rowP_at hr] at h2
          have := (hMc.keeps hk.out).in_spec r x (by omega) (by omega)
          rw [hN, hasB_nat hr h1, hac _ _ h2] at this
          exact this
        have HSM : Hid (∀ W u v l, Hid (Keeps (fun _ => False) wC W) → ReadsL W u l → ReadsL W v l → l.length ≤ 1000000 → Calls Tryd.prog 20 #[u, v] W fun e W' => e = .returned (.bool true) ∧ Hid (Keeps (fun _ => False) wC W') ∧ Hid (Keeps (fun _ => False) W W')) := fun W u v l hk hu hv hl =>
          (same_spec hu hv hl hl).mono fun e W' ⟨he, nq, hw⟩ => ⟨by rw [he]; simp, by rw [hw]; exact hk.out.trans ((Keeps.refl _ _).drewN _), by rw [hw]; exact (Keeps.refl _ _).drewN _⟩
        have HNN := Lib.hid hN
        have hll : ∀ r : Nat, (listTo (rowP N Inb r) P).length ≤ 1000000 := fun r => by rw [listTo_len]; have := cnt_le (rowP N Inb r) P; omega
        have HLL := Lib.hid hll
        have hNl : N ≤ 60 := by rw [← hN]; exact Nat.le_trans (Nat.mul_le_mul hPl hKl) (by decide)
        have hmul : IntKind.i64.wrap ((P : Int) * (K : Int)) = (N : Int) := by
          have : (P : Int) * (K : Int) = (N : Int) := by rw [← hN]; simp
          rw [this]; exact IntWalk.i64_in _ (by omega)
        have hc0 : wC.cell? ⟨w.heap.size, 0, none⟩ = some (.int .i64 d0) := (HKS2.out _ hkc).1
        have hc1 : wC.cell? ⟨w.heap.size, 1, none⟩ = some (.int .i64 d1) := (HKS2.out _ hkc).2
        have HKC : Hid (Keeps (fun _ => False) wC wC) := Keeps.refl _ _
        clear hMa hMb hMc hDa hDb hDc hac hmb hma2 hmc HKT HBASE HE3 hS0 HKD HKN HKS2 HER HRR HRM HG1 HG2 HK1 HT1 HK2 HT2 hkb hkc hll hN
        go_upto_region 11 with fail
        go_cut [82, 83] (fun s t wx => s = .int .i64 N ∧ t = .int .i64 0 ∧ wx = wC)
        case first =>
          obtain ⟨hP, hK⟩ := HWI.out
          have hP' : d0 < 0 ∧ P = 0 ∨ d0 = (P : Int) := by unfold Within at hP; omega
          have hK' : d1 < 0 ∧ K = 0 ∨ d1 = (K : Int) := by unfold Within at hK; omega
          clear hP hK HTC HBC HLA HLB HIC HSM HLL
          rcases hP' with ⟨hp, rfl⟩ | rfl
          · obtain rfl : N = 0 := by rw [← HNN.out, Nat.zero_mul]
            rcases hK' with ⟨hk, rfl⟩ | rfl
            · go_wp2
              go_meet
              exact ⟨rfl, rfl, rfl⟩
            · have hk : (0 : Int) ≤ (K : Int) := by omega
              go_wp2
              go_meet
              exact ⟨rfl, rfl, rfl⟩
          · have hp : (0 : Int) ≤ (P : Int) := by omega
            rcases hK' with ⟨hk, rfl⟩ | rfl
            · obtain rfl : N = 0 := by rw [← HNN.out, Nat.mul_zero]
              go_wp2
              go_meet
              exact ⟨rfl, rfl, rfl⟩
            · have hk : (0 : Int) ≤ (K : Int) := by omega
              go_wp2
              go_meet
              exact ⟨rfl, rfl, rfl⟩
        case rest =>
          obtain ⟨rfl, rfl, rfl⟩ := hcut
          clear hc0 hc1 hmul
          go_wp2_with fail
          go_loopg [83] N (fun g t wy => ∃ r : Nat, r ≤ N ∧ g = N - r ∧ t = .int .i64 r ∧ Hid (Keeps (fun _ => False) wc wy))
          case atStart => exact ⟨0, Nat.zero_le _, rfl, rfl, HKC.out⟩
          case round =>
            clear HKC
            obtain ⟨r, hr, rfl, rfl, hkr⟩ := hrel
            by_cases hlt2 : r < N
            · have hrI : (r : Int) < (N : Int) := by omega
              have A1 := Lib.hid (HLA.out _ hkr r)
              have hln := HLL.out r
              have HIR : Hid (∀ W, Hid (Keeps (fun _ => False) wc W) → ∀ x : Nat, x ∈ listTo (rowP N Inb r) P → Calls Tryd.prog 31 #[.pointer (some ⟨moc, 0, none⟩), .int .i64 r, .int .i64 x] W fun e W' => e = .returned (.bool true) ∧ W = W') := fun W hk x hx => HIC.out W hk r x hlt2 hx
              have HLAr : Hid (∀ W, Hid (Keeps (fun _ => False) wc W) → Calls Tryd.prog 30 #[.pointer (some ⟨moa, 0, none⟩), .int .i64 r] W fun e W' => ∃ ao' cap', e = .returned (.slice ao' (listTo (rowP N Inb r) P).length cap') ∧ Hid (ReadsL W' (.slice ao' (listTo (rowP N Inb r) P).length cap') (listTo (rowP N Inb r) P)) ∧ Hid (Keeps (fun _ => False) wc W') ∧ Hid (Keeps (fun _ => False) W W')) := fun W hk => HLA.out W hk r
              have HLBr : Hid (∀ W, Hid (Keeps (fun _ => False) wc W) → Calls Tryd.prog 30 #[.pointer (some ⟨mob, 0, none⟩), .int .i64 r] W fun e W' => ∃ ao' cap', e = .returned (.slice ao' (listTo (rowP N Inb r) P).length cap') ∧ Hid (ReadsL W' (.slice ao' (listTo (rowP N Inb r) P).length cap') (listTo (rowP N Inb r) P)) ∧ Hid (Keeps (fun _ => False) wc W') ∧ Hid (Keeps (fun _ => False) W W')) := fun W hk => HLB.out W hk r
              clear HLA HLB HIC HLL HTC HBC hkr
              generalize listTo (rowP N Inb r) P = l at A1 hln HIR HLAr HLBr
              go_wp2_with fail
              refine A1.out.mono ?_
              rintro e w1 ⟨ao1, cap1, rfl, hr1, hk1, _⟩
              clear A1
              go_wp2_with fail
              refine (HLBr.out _ hk1).mono ?_
              rintro e w2 ⟨aob2, capb2, rfl, hr2, hk2, hk12⟩
              have A2 := Lib.hid (HSM.out w2 _ _ l hk2 (hr1.out.keeps hk12.out) hr2.out hln)
              clear HLBr hr1 hr2 hk1 hk12
              go_wp2_with fail
              refine A2.out.mono ?_
              rintro e w3 ⟨rfl, hk3, _⟩
              clear A2 hk2
              go_wp2_with fail
              refine (HLAr.out _ hk3).mono ?_
              rintro e w4 ⟨ao4, cap4, rfl, hr4, hk4, _⟩
              clear HLAr hk3
              obtain ⟨ao5, cap5, he5, hle5, _, hcells⟩ := hr4.out
              cases he5
              have HCE := Lib.hid hcells
              clear hr4 hcells
              go_wp2_with fail
              go_loopg [98] l.length (fun g t wy => ∃ k : Nat, k ≤ l.length ∧ g = l.length - k ∧ t = .int .i64 k ∧ wy = w4)
              case atStart => exact ⟨0, Nat.zero_le _, rfl, rfl, rfl⟩
              case round =>
                obtain ⟨k, hk, rfl, rfl, rfl⟩ := hrel
                by_cases hlt3 : k < l.length
                · obtain ⟨x, hx⟩ : ∃ x, l[k]? = some x := ⟨_, List.getElem?_eq_getElem hlt3⟩
                  obtain ⟨g5, rfl, _, hc5⟩ := HCE.out (by omega)
                  have hcx := hc5 k x hx
                  have hkI : (k : Int) < (l.length : Int) := by omega
                  have A5 := Lib.hid (HIR.out _ hk4 x (List.mem_of_getElem? hx))
                  clear hc5 hx
                  go_wp2_with fail
                  refine A5.out.mono ?_
                  rintro e w6 ⟨rfl, rfl⟩
                  clear A5
                  go_wp2_with fail
                  go_roundg (l.length - (k + 1))
                  case measure => omega
                  case rel => exact ⟨k + 1, by omega, rfl, by go_num, rfl⟩
                · obtain rfl : k = l.length := by omega
                  go_wp2_with fail
                  go_roundg (N - (r + 1))
                  case measure => omega
                  case rel => exact ⟨r + 1, by omega, rfl, by go_num, hk4⟩
            · obtain rfl : r = N := by omega
              have HL := Lib.hid (slives_any _ (HTC.out _ hkr))
              have HB := Lib.hid (HBC.out _ hkr)
              clear HLA HLB HIC HLL HTC HBC hkr HSM
              go_wp2_with fail
              refine HL.out.mono ?_
              rintro e w9 ⟨rfl, hb9⟩
              have HB9 : Hid (Below w.heap.size w w9) := HB.out.trans ((Keeps.of_below (S := fun _ => False) hb9 (Nat.le_refl _)).below HB.out.size (fun _ _ x => x))
              clear hb9 HL HB
              go_wp2_with fail
              go_ret
              exact ⟨rfl, HB9.out⟩
  · have HL := Lib.hid (slives_any _ hT0)
    have HB : Hid (∀ w2, Below (w.alloc (.cells #[.int .i64 d0, .int .i64 d1] 27)).heap.size (w.alloc (.cells #[.int .i64 d0, .int .i64 d1] 27)) w2 → Below w.heap.size w w2) := fun w2 hb => (Below.alloc (Below.refl _ _) (Nat.le_refl _) _).trans ((Keeps.of_below (S := fun _ => False) hb (Nat.le_refl _)).below (by simp) (fun _ _ x => x))
    clear hk0 hT0 hR hM hT
    by_cases h0 : d0 ≤ 10 ∧ d1 ≤ 6 ∧ n ≤ 60
    · rw [decide_eq_true h0] at HS
      by_cases h1 : n ≤ 30
      · have h1I : ¬ (30 : Int) < (n : Int) := by omega
        have h2I : (30 : Int) < (n2 : Int) := by omega
        clear hsm h0
        go_enter Tryd.func5, Tryd.ntmps5
        go_wp2_with fail
        refine HS.out.mono ?_
        rintro e w' ⟨rfl, rfl⟩
        clear HS
        go_wp2_with fail
        refine HL.out.mono ?_
        rintro e w2 ⟨rfl, hb⟩
        have HB2 := Lib.hid (HB.out w2 hb)
        clear hb HL HB
        go_wp2_with fail
        go_ret
        exact ⟨rfl, HB2.out⟩
      · have h1I : (30 : Int) < (n : Int) := by omega
        clear hsm h0
        go_enter Tryd.func5, Tryd.ntmps5
        go_wp2_with fail
        refine HS.out.mono ?_
        rintro e w' ⟨rfl, rfl⟩
        clear HS
        go_wp2_with fail
        refine HL.out.mono ?_
        rintro e w2 ⟨rfl, hb⟩
        have HB2 := Lib.hid (HB.out w2 hb)
        clear hb HL HB
        go_wp2_with fail
        go_ret
        exact ⟨rfl, HB2.out⟩
    · rw [decide_eq_false h0] at HS
      clear hsm h0
      go_enter Tryd.func5, Tryd.ntmps5
      go_wp2_with fail
      refine HS.out.mono ?_
      rintro e w' ⟨rfl, rfl⟩
      clear HS
      go_wp2_with fail
      refine HL.out.mono ?_
      rintro e w2 ⟨rfl, hb⟩
      have HB2 := Lib.hid (HB.out w2 hb)
      clear hb HL HB
      go_wp2_with fail
      go_ret
      exact ⟨rfl, HB2.out⟩
theorem semGrows_core (w : World) (c : Array Value) (hs : c.size = 2) (hf : Fits [.int .i64, .int .i64] 0 c.toList) (ao : Option Addr) (n cap : Nat) (G : Nat → Nat → Value) (R : IsRow w [.int .i64, .int .i64, .int .i64, .int .i64, .int .i64, .int .i64] ao n cap G)
    (ao2 : Option Addr) (n2 cap2 : Nat) (G2 : Nat → Nat → Value) (R2 : IsRow w [.int .i64, .int .i64, .int .i64, .int .i64, .int .i64, .int .i64] ao2 n2 cap2 G2) (hT : TabIn w) :
    Calls Tryd.prog 5 #[.agg c, .slice ao n cap, .slice ao2 n2 cap2] w fun e w' => e = .returned (.bool true) ∧ Below w.heap.size w w' := by
  obtain ⟨x, y, rfl⟩ := dims_of_fits hs hf
  obtain ⟨rs, hrs, hR, _⟩ := R.rules
  obtain ⟨ms, hms, hM, _⟩ := R2.rules
  exact semGrows_any w x y ao n cap rs hrs R.le hR ao2 n2 cap2 ms hms R2.le hM hT
end Go.Proofs.YtmljmpjpdgijlaaDoor
