/-
 All pairs that follow of statements: the document's.
-/
import Derived.Test.YtckikkkdabpjkaaGreatMC
import Derived.Test.YtckikkkdabpjkaaGreatCutsFol
set_option linter.unusedVariables false
set_option linter.unusedSimpArgs false
set_option linter.unnecessarySimpa false
namespace Go.Proofs.YtckikkkdabpjkaaGreat
open Go.ChangeShapes Go.WideShapes Go.ChangeAt Go.RowKit Go.Deep
/-- The document's round, so far. -/
def runP (l : List Pr) (F : List Stm) (i : Nat) : List Pr := (F.take i).foldl stepP l
theorem runP_zero (l : List Pr) (F : List Stm) : runP l F 0 = l := rfl
theorem runP_next {l : List Pr} {F : List Stm} {i : Nat} {y : Stm} (hy : F[i]? = some y) : runP l F (i + 1) = stepP (runP l F i) y := by
 unfold runP
 rw [List.take_add_one, hy, List.foldl_append]
 rfl
/-- One statement's names, so far. -/
def addW (l : List Pr) (r : Rol) (ws : List Str) (j : Nat) : List Pr := (ws.take j).foldl (fun l w => addP l (r, w)) l
theorem addW_zero (l : List Pr) (r : Rol) (ws : List Str) : addW l r ws 0 = l := rfl
theorem addW_next {l : List Pr} {r : Rol} {ws : List Str} {j : Nat} {w : Str} (hw : ws[j]? = some w) : addW l r ws (j + 1) = addP (addW l r ws j) (r, w) := by
 unfold addW
 rw [List.take_add_one, hw, List.foldl_append]
 rfl
theorem addW_all {l : List Pr} {y : Stm} {n : Nat} (h : (folL l y).length = n) : addW l y.1 (folL l y) n = stepP l y := by
 unfold addW stepP
 rw [List.take_of_length_le (by omega)]
theorem addW_le (l : List Pr) (r : Rol) (ws : List Str) (j : Nat) : l.length ≤ (addW l r ws j).length := (addsP_len _ l).1
theorem stepP_len (l : List Pr) (y : Stm) : l.length ≤ (stepP l y).length ∧ ((stepP l y).length = l.length → stepP l y = l) := addsP_len _ l
theorem fold_len : ∀ (F : List Stm) (l : List Pr), l.length ≤ (F.foldl stepP l).length ∧ ((F.foldl stepP l).length = l.length → F.foldl stepP l = l ∧ ∀ y ∈ F, ∀ w ∈ folL l y, (y.1, w) ∈ l)
 | [], l => ⟨Nat.le_refl _, fun _ => ⟨rfl, fun y h => by cases h⟩⟩
 | y :: F, l => by
  obtain ⟨a1, a2⟩ := stepP_len l y
  obtain ⟨b1, b2⟩ := fold_len F (stepP l y)
  rw [List.foldl_cons]
  refine ⟨Nat.le_trans a1 b1, fun e => ?_⟩
  have e1 : stepP l y = l := a2 (by omega)
  rw [e1] at b2 e ⊢
  obtain ⟨c1, c2⟩ := b2 e
  refine ⟨c1, fun z hz w hw => ?_⟩
  rcases List.mem_cons.1 hz with rfl | hz
  ·rw [← e1]
   exact stepP_mem.2 (.inr ⟨rfl, hw⟩)
  ·exact c2 z hz w hw
theorem runP_le (l : List Pr) (F : List Stm) (i : Nat) : l.length ≤ (runP l F i).length := (fold_len _ l).1
theorem runP_all {F : List Stm} {n : Nat} (h : F.length = n) (l : List Pr) : runP l F n = F.foldl stepP l := by
 unfold runP
 rw [List.take_of_length_le (by omega)]
theorem EvI.run {F : List Stm} {l : List Pr} (h : EvI F l) : ∀ (m : List Stm), (∀ y ∈ m, y ∈ F) → EvI F (m.foldl stepP l)
 | [], _ => h
 | y :: m, hm => (h.step (hm y (List.mem_cons_self ..))).run m (fun z hz => hm z (List.mem_cons_of_mem _ hz))
theorem EvI.runP {F : List Stm} {l : List Pr} (h : EvI F l) (i : Nat) : EvI F (runP l F i) := h.run _ (fun y hy => List.mem_of_mem_take hy)
theorem EvI.addW {F : List Stm} {l l0 : List Pr} (h : EvI F l) (h0 : EvI F l0) {y : Stm} (hy : y ∈ F) : ∀ (ws : List Str), (∀ w ∈ ws, w ∈ folL l0 y) → EvI F (ws.foldl (fun l w => addP l (y.1, w)) l)
 | [], _ => h
 | w :: ws, hw => (h.add hy h0.der (hw w (List.mem_cons_self ..))).addW h0 hy ws (fun z hz => hw z (List.mem_cons_of_mem _ hz))
theorem flatB_len {α β : Type} (f : α → List β) (p : α → Bool) (c : Nat) (hz : ∀ x, p x = false → f x = []) (hc : ∀ x, (f x).length ≤ c) : ∀ l : List α, (l.flatMap f).length ≤ (l.filter p).length * c
 | [] => by simp
 | x :: l => by
  have h2 := flatB_len f p c hz hc l
  rw [List.flatMap_cons, List.length_append, List.filter_cons]
  cases hp : p x with
  | false => rw [hz x hp]; simpa using h2
  | true =>
   have h1 := hc x
   simp only [if_true, List.length_cons, Nat.add_mul, Nat.one_mul]
   omega
theorem inR_few {F : List Stm} {l : List Pr} (h : EvI F l) (r : Rol) : (inR l r).length ≤ F.length := by
 unfold inR
 rw [List.length_map]
 exact h.of_role r
theorem folL_few {F : List Stm} {l : List Pr} (h : EvI F l) (y : Stm) : (folL l y).length ≤ F.length * (F.length + 1) + 1 := by
 unfold folL
 split
 ·simp
 ·refine Nat.le_trans (flatB_len (folX l y) (fun x => decide (x.1 = y.2.2.2.1)) (F.length + 1) (fun x hx => if_neg (of_decide_eq_false hx)) (fun x => ?_) l) ?_
  ·unfold folX
   split
   ·rw [List.length_append]
    have h1 : (if y.2.1 = 2 ∨ (y.2.1 = 4 ∧ (y.2.2.2.2.1, x.2) ∈ l) then [x.2] else []).length ≤ 1 := by split <;> simp
    have h2 : (if y.2.1 = 3 then (l.filter (fun z => decide (z.1 = (x.2, y.2.2.2.2.2)))).map (·.2) else []).length ≤ F.length := by
     split
     ·exact inR_few h _
     ·simp
    omega
   ·simp
  ·have := Nat.mul_le_mul_right (F.length + 1) (h.of_role y.2.2.2.1)
   omega
/-- All that follows is there. -/
def ShutP (F : List Stm) (l : List Pr) : Prop := ∀ y ∈ F, ∀ w ∈ folL l y, (y.1, w) ∈ l
set_option maxRecDepth 100000
set_option maxHeartbeats 6400000

theorem peval_spec {W : World} {v : Value} {F : List Stm} (h : RdK stmE W v F) (hF : F.length ≤ 90) (hkd : ∀ y ∈ F, 1 ≤ y.2.1 ∧ y.2.1 ≤ 4) :
 Calls Tryz.prog 82 #[v] W fun e W' => ∃ v', e = .returned v' ∧ Hid (KF W W' ∧ ∃ l, RdK prE W' v' l ∧ EvI F l ∧ ShutP F l) := by
 have HV := Lib.hid h
 obtain ⟨so, sc, rfl, hle, _⟩ := h
 obtain ⟨n, hn⟩ : ∃ n, F.length = n := ⟨_, rfl⟩
 rw [hn] at hle hF HV ⊢
 have HN := Lib.hid hn
 have HKD := Lib.hid hkd
 obtain ⟨B, hB⟩ : ∃ B, n * n = B := ⟨_, rfl⟩
 have hB2 : B ≤ 8100 := by have := Nat.mul_le_mul hF hF; omega
 have hB3 : n * (n + 1) + 1 ≤ 8191 := by have := Nat.mul_le_mul hF (Nat.succ_le_succ hF); simp only [Nat.succ_eq_add_one] at this; omega
 have HBL : Hid (∀ l, EvI F l → l.length ≤ B) := fun l he => by have := he.len; rw [HN.out, hB] at this; exact this
 have HFW : Hid (∀ l y, EvI F l → (folL l y).length ≤ 90000) := fun l y he => by have := folL_few he y; rw [HN.out] at this; omega
 clear hB hB3 hn hkd
 obtain ⟨bs, hbs⟩ : ∃ q, W.heap.size = q := ⟨_, rfl⟩
 have HBS := Lib.hid hbs
 clear hbs
 go_enter Tryz.func82, Tryz.ntmps82
 go_wp2_with fail
 go_loopg [3, 4] (B + 1) (fun g o ag wx => ∃ (gg : Nat) (again : Bool) (lv : Value) (l : List Pr), gg = g ∧ ag = .bool again ∧ lv = o ∧ Hid (again = true → B + 1 ≤ gg + l.length) ∧ Hid (KF W wx ∧ OwnK prE bs wx lv l ∧ EvI F l) ∧ Hid (again = false → ShutP F l))
 case atStart => exact ⟨B + 1, true, _, [], rfl, rfl, rfl, fun _ => by simp, ⟨Keeps.refl _ _, ownK_nil _ _ _, EvI.nil F⟩, fun e => by cases e⟩
 case round =>
  obtain ⟨g0, again, lv, l0, rfl, rfl, rfl, HG, HI, HSH⟩ := hrel
  cases again
  case true =>
   have hg0 : B + 1 ≤ g0 + l0.length := HG.out rfl
   have hl0 := HBL.out l0 HI.out.2.2
   clear HG HSH
   have HJ0 : Hid (KF W wr ∧ OwnK prE bs wr lv (runP l0 F 0) ∧ EvI F (runP l0 F 0)) := HI.out
   have HE0 := Lib.hid HI.out.2.2
   clear HI
   go_wp2_with fail
   go_loopg [3, 4, 12] n (fun g o ag t wx => ∃ (i : Nat) (ab : Bool) (lv : Value), i ≤ n ∧ g = n - i ∧ t = .int .i64 i ∧ lv = o ∧ ag = .bool ab ∧ Hid (ab = decide (l0.length < (runP l0 F i).length)) ∧ Hid (KF W wx ∧ OwnK prE bs wx lv (runP l0 F i) ∧ EvI F (runP l0 F i)))
   case atStart => exact ⟨0, false, _, Nat.zero_le _, rfl, rfl, rfl, rfl, (decide_eq_false (by rw [runP_zero]; omega)).symm, HJ0⟩
   case round =>
    clear HJ0
    obtain ⟨i, ab, lv, hi, rfl, rfl, rfl, rfl, HAB, HI⟩ := hrel
    by_cases hlt : i < n
    ·skip
     have hiI : (i : Int) < (n : Int) := by omega
     have hwi : IntKind.i64.wrap ((i : Int) + 1) = (i : Int) + 1 := IntWalk.i64_in _ (by omega)
     have hicap : i < sc := by omega
     obtain ⟨y, hy⟩ : ∃ y, F[i]? = some y := ⟨_, List.getElem?_eq_getElem (by rw [HN.out]; exact hlt)⟩
     obtain ⟨aoz, cpz, ez, hez, hrz⟩ := id (HV.out.keeps HI.out.1)
     obtain ⟨g, off, hao, hg, hcc⟩ := hrz (by rw [HN.out]; omega)
     simp only [Value.slice.injEq] at ez
     obtain ⟨rfl, hzz, rfl⟩ := ez
     subst hao
     have hc := hcc i y hy
     have hym : y ∈ F := List.mem_of_getElem? hy
     have HNX := Lib.hid (runP_next (l := l0) hy)
     have hk := HKD.out y hym
     have HYM := Lib.hid hym
     obtain ⟨l1, hl1⟩ : ∃ l1, runP l0 F i = l1 := ⟨_, rfl⟩
     rw [hl1] at HI HNX HAB
     have hle1 : l0.length ≤ l1.length := by rw [← hl1]; exact runP_le l0 F i
     have hl1B := HBL.out l1 HI.out.2.2
     have HF1 := Lib.hid (HFW.out l1 y HI.out.2.2)
     obtain ⟨⟨yh1, yh2⟩, yk, yo, ⟨ya1, ya2⟩, ⟨yb1, yb2⟩, yi⟩ := y
     simp only at hk
     clear hcc hrz hez hzz hy hym hl1
     obtain ⟨c0, c1, c2, c3, c4, c5, c6, c7, c8⟩ := n9 hc
     have hka : KF wr (wr.alloc (bM yk yh1 yh2 yo ya1 ya2 yb1 yb2 yi)) := (Keeps.refl _ _).alloc _
     have hal := (MapKept.heap_alloc wr (bM yk yh1 yh2 yo ya1 ya2 yb1 yb2 yi)).1
     obtain ⟨sb, hsb⟩ : ∃ b, wr.heap.size = b := ⟨_, rfl⟩
     rw [hsb] at hal
     have HB := Lib.hid hal
     have HJ : Hid (KF W (wr.alloc (bM yk yh1 yh2 yo ya1 ya2 yb1 yb2 yi)) ∧ OwnK prE bs (wr.alloc (bM yk yh1 yh2 yo ya1 ya2 yb1 yb2 yi)) lv l1 ∧ EvI F l1) := ⟨HI.out.1.trans hka, HI.out.2.1.keeps hka (fun _ _ z => z), HI.out.2.2⟩
     have HNB : Hid (∀ k, lv.ownBlock = some k → k ≠ sb) := fun k hk => by have := own_lt HI.out.2.1 k hk; omega
     have HFC := Lib.hid (pfollows_spec HJ.out.2.1.reads (by omega) ((yh1, yh2), yk, yo, (ya1, ya2), (yb1, yb2), yi) hk.1 hk.2 HF1.out)
     unfold stmV at HFC
     simp only at HFC
     go_upto_region 8 with fail
     (try simp only [hsb])
     clear hka hal hsb hc hg HI HF1 c0 c1 c2 c3 c4 c5 c6 c7 c8
     generalize wr.alloc (bM yk yh1 yh2 yo ya1 ya2 yb1 yb2 yi) = w2 at *
     obtain ⟨p0, f0, p1, f1, p2, f2, p3, f3, p4, f4, p5, f5, p6, f6, p7, f7, p8, f8⟩ := cf9 HB.out
     clear f0 f1 f2 f3 f4 f5 f6 f7 f8
     go_wp2_with fail
     refine HFC.out.mono ?_
     rintro e w3 ⟨fv, rfl, hk3⟩
     obtain ⟨fo, fc, hfv, hfle, _⟩ := id hk3.out.2.1
     obtain ⟨ws, hws⟩ : ∃ ws, folL l1 ((yh1, yh2), yk, yo, (ya1, ya2), (yb1, yb2), yi) = ws := ⟨_, rfl⟩
     have HWS := Lib.hid hws
     have hwl : (folL l1 ((yh1, yh2), yk, yo, (ya1, ya2), (yb1, yb2), yi)).length ≤ 90000 := HFW.out l1 ((yh1, yh2), yk, yo, (ya1, ya2), (yb1, yb2), yi) HJ.out.2.2
     rw [hws] at hfv hfle hwl
     obtain ⟨m, hm⟩ : ∃ m, ws.length = m := ⟨_, rfl⟩
     have HM := Lib.hid hm
     rw [hm] at hfv hfle hwl
     have h31 := hk3.out.1
     have h32 := hk3.out.2.1
     have h33 := hk3.out.2.2
     rw [hws] at h32
     subst hfv
     have HJ3 : Hid (KF W w3 ∧ OwnK prE bs w3 lv (addW l1 (yh1, yh2) ws 0) ∧ RowX w3 (.slice fo m fc) ws (fun k => lv.ownBlock ≠ some k) ∧ w3.heap[sb]? = some (bM yk yh1 yh2 yo ya1 ya2 yb1 yb2 yi) ∧ ∀ k, lv.ownBlock = some k → k ≠ sb) :=
      ⟨HJ.out.1.trans h31, HJ.out.2.1.keeps h31 (fun _ _ z => z), ⟨h32, fun k hk => ⟨(h33 k hk).2, fun e => by have := own_lt HJ.out.2.1 k e; have := (h33 k hk).1; omega⟩⟩, (h31.block _ (lt_of_heap HB.out) (fun x => x)).trans HB.out, HNB.out⟩
     have HE1 := Lib.hid HJ.out.2.2
     have HAB1 : Hid (ab = decide (l0.length < (addW l1 (yh1, yh2) ws 0).length)) := by rw [addW_zero]; exact HAB.out
     clear HFC hk3 h31 h32 h33 HJ HB HNB HAB hws hm p0 p1 p2 p3 p4 p5 p6 p7 p8
     go_wp2_with fail
     go_loopg [3, 4, 20] m (fun g o ag t wx => ∃ (j : Nat) (ab : Bool) (lv : Value), j ≤ m ∧ g = m - j ∧ t = .int .i64 j ∧ lv = o ∧ ag = .bool ab ∧ Hid (ab = decide (l0.length < (addW l1 (yh1, yh2) ws j).length)) ∧ Hid (KF W wx ∧ OwnK prE bs wx lv (addW l1 (yh1, yh2) ws j) ∧ RowX wx (.slice fo m fc) ws (fun k => (lv : Value).ownBlock ≠ some k) ∧ wx.heap[sb]? = some (bM yk yh1 yh2 yo ya1 ya2 yb1 yb2 yi) ∧ ∀ k, (lv : Value).ownBlock = some k → k ≠ sb))
     case atStart => exact ⟨0, ab, _, Nat.zero_le _, rfl, rfl, rfl, rfl, HAB1, HJ3⟩
     case round =>
      clear HJ3 HAB1
      obtain ⟨j, ab, lv, hj, rfl, rfl, rfl, rfl, HAB, HI⟩ := hrel
      by_cases hlt3 : j < m
      ·skip
       have hjI : (j : Int) < (m : Int) := by omega
       have hwj : IntKind.i64.wrap ((j : Int) + 1) = (j : Int) + 1 := IntWalk.i64_in _ (by omega)
       have hjcap : j < fc := by omega
       obtain ⟨x, hx⟩ : ∃ x, ws[j]? = some x := ⟨_, List.getElem?_eq_getElem (by rw [HM.out]; exact hlt3)⟩
       obtain ⟨aoz, cpz, ez, hez, hrz⟩ := id HI.out.2.2.1.1
       obtain ⟨gf, off2, hao, hg, hcc⟩ := hrz (by rw [HM.out]; omega)
       simp only [Value.slice.injEq] at ez
       obtain ⟨rfl, hzz, rfl⟩ := ez
       subst hao
       have c0 : wr.cell? ⟨gf, off2 + j, none⟩ = some (.string ⟨x.toArray⟩) := hcc j x hx
       have HNA := Lib.hid (addW_next (l := l1) (r := (yh1, yh2)) hx)
       have hae : EvI F (addW l1 (yh1, yh2) ws j) := HE1.out.addW HE1.out HYM.out _ (fun w hw => by rw [HWS.out]; exact List.mem_of_mem_take hw)
       have hal := HBL.out _ hae
       have hle2 := addW_le l1 (yh1, yh2) ws j
       have HC := Lib.hid (pin_spec HI.out.2.1.reads (by omega) (yh1, yh2) x)
       unfold rolV2 at HC
       simp only at HC
       obtain ⟨bi, hbi⟩ : ∃ q, decide (((yh1, yh2), x) ∈ addW l1 (yh1, yh2) ws j) = q := ⟨_, rfl⟩
       rw [hbi] at HC
       have HBI := Lib.hid hbi
       obtain ⟨A1, hA1⟩ : ∃ A1, addW l1 (yh1, yh2) ws j = A1 := ⟨_, rfl⟩
       rw [hA1] at HI HAB HNA HBI hle2 hal
       clear hcc hrz hez hzz hx hbi hae hA1
       obtain ⟨p0, f0, p1, f1, p2, f2, p3, f3, p4, f4, p5, f5, p6, f6, p7, f7, p8, f8⟩ := cf9 HI.out.2.2.2.1
       clear f0 f1 f2 f3 f4 f5 f6 f7 f8
       go_wp2_with fail
       refine HC.out.mono ?_
       rintro e w4 ⟨rfl, hk4⟩
       have HJ : Hid (KF W w4 ∧ OwnK prE bs w4 lv A1 ∧ RowX w4 (.slice (some ⟨gf, off2, none⟩) m fc) ws (fun k => lv.ownBlock ≠ some k) ∧ w4.heap[sb]? = some (bM yk yh1 yh2 yo ya1 ya2 yb1 yb2 yi) ∧ ∀ k, lv.ownBlock = some k → k ≠ sb) :=
        ⟨HI.out.1.trans hk4.out, HI.out.2.1.keeps hk4.out (fun _ _ z => z), HI.out.2.2.1.into hk4.out (fun _ _ _ z => z) (fun _ _ z => z), (hk4.out.block _ (lt_of_heap HI.out.2.2.2.1) (fun x => x)).trans HI.out.2.2.2.1, HI.out.2.2.2.2⟩
       clear HC hk4 HI c0 hg p0 p1 p2 p3 p4 p5 p6 p7 p8
       cases bi
       case true =>
        have e1 : addP A1 ((yh1, yh2), x) = A1 := if_pos (of_decide_eq_true HBI.out)
        rw [e1] at HNA
        have HN2 : Hid (KF W w4 ∧ OwnK prE bs w4 lv (addW l1 (yh1, yh2) ws (j + 1)) ∧ RowX w4 (.slice (some ⟨gf, off2, none⟩) m fc) ws (fun k => (lv : Value).ownBlock ≠ some k) ∧ w4.heap[sb]? = some (bM yk yh1 yh2 yo ya1 ya2 yb1 yb2 yi) ∧ ∀ k, (lv : Value).ownBlock = some k → k ≠ sb) := by rw [HNA.out]; exact HJ.out
        have HAN : Hid (ab = decide (l0.length < (addW l1 (yh1, yh2) ws (j + 1)).length)) := by rw [HNA.out]; exact HAB.out
        clear HJ HAB HNA HBI e1
        go_wp2_with fail
        go_roundg (m - (j + 1))
        case measure => omega
        case rel => exact ⟨j + 1, ab, _, by omega, rfl, by go_num, rfl, rfl, HAN, HN2⟩
       case false =>
        have e1 : addP A1 ((yh1, yh2), x) = A1 ++ [((yh1, yh2), x)] := if_neg (of_decide_eq_false HBI.out)
        rw [e1] at HNA
        have hka : KF w4 (w4.alloc (.cells #[.string ⟨yh1.toArray⟩, .string ⟨yh2.toArray⟩, .string ⟨x.toArray⟩] 136)) := (Keeps.refl _ _).alloc _
        have HJ5 : Hid (KF W (w4.alloc (.cells #[.string ⟨yh1.toArray⟩, .string ⟨yh2.toArray⟩, .string ⟨x.toArray⟩] 136)) ∧ OwnK prE bs (w4.alloc (.cells #[.string ⟨yh1.toArray⟩, .string ⟨yh2.toArray⟩, .string ⟨x.toArray⟩] 136)) lv A1 ∧ RowX (w4.alloc (.cells #[.string ⟨yh1.toArray⟩, .string ⟨yh2.toArray⟩, .string ⟨x.toArray⟩] 136)) (.slice (some ⟨gf, off2, none⟩) m fc) ws (fun k => lv.ownBlock ≠ some k) ∧ (w4.alloc (.cells #[.string ⟨yh1.toArray⟩, .string ⟨yh2.toArray⟩, .string ⟨x.toArray⟩] 136)).heap[sb]? = some (bM yk yh1 yh2 yo ya1 ya2 yb1 yb2 yi) ∧ ∀ k, lv.ownBlock = some k → k ≠ sb) :=
         ⟨HJ.out.1.trans hka, HJ.out.2.1.keeps hka (fun _ _ z => z), HJ.out.2.2.1.into hka (fun _ _ _ z => z) (fun _ _ z => z), (hka.block _ (lt_of_heap HJ.out.2.2.2.1) (fun x => x)).trans HJ.out.2.2.2.1, HJ.out.2.2.2.2⟩
        have HSZ := Lib.hid (show bs ≤ (w4.alloc (.cells #[.string ⟨yh1.toArray⟩, .string ⟨yh2.toArray⟩, .string ⟨x.toArray⟩] 136)).heap.size from by have := HJ5.out.1.size; have := HBS.out; omega)
        obtain ⟨p0, f0, p1, f1, p2, f2, p3, f3, p4, f4, p5, f5, p6, f6, p7, f7, p8, f8⟩ := cf9 HJ.out.2.2.2.1
        clear f0 f1 f2 f3 f4 f5 f6 f7 f8 hka HJ
        go_wp2_with (at_builtin; refine app_fp (E := prE) rfl _ _ rfl bs lv A1 rfl HJ5.out.2.1 _ [((yh1, yh2), x)] rfl (one_srcK (E := prE) w4 ((yh1, yh2), x) #[.string ⟨yh1.toArray⟩, .string ⟨yh2.toArray⟩, .string ⟨x.toArray⟩] rfl).1 (by simp) (by simp only [List.length_cons, List.length_nil]; omega) HSZ.out ?_)
        intro ao' cap' w6 ho hk hf
        have hs5 := lt_of_heap HJ5.out.2.2.2.1
        have HN2 : Hid (KF W w6 ∧ OwnK prE bs w6 _ (addW l1 (yh1, yh2) ws (j + 1)) ∧ RowX w6 (.slice (some ⟨gf, off2, none⟩) m fc) ws (fun k => (_ : Value).ownBlock ≠ some k) ∧ w6.heap[sb]? = some (bM yk yh1 yh2 yo ya1 ya2 yb1 yb2 yi) ∧ ∀ k, (_ : Value).ownBlock = some k → k ≠ sb) := ⟨HJ5.out.1.trans_new hk (fun q hq e => by have := own_block HJ5.out.2.1 q e; have := HBS.out; omega), by rw [HNA.out]; exact ho, HJ5.out.2.2.1.into hk (fun q _ hp e => hp e) (fun q hq hp e => (hf q e).elim hp (fun z => by rw [size_alloc] at hq; omega)), (hk.block _ hs5 (fun e => HJ5.out.2.2.2.2 _ e rfl)).trans HJ5.out.2.2.2.1, fun k e => (hf k e).elim (HJ5.out.2.2.2.2 k) (fun z => by rw [size_alloc] at hs5; omega)⟩
        have HAN : Hid (true = decide (l0.length < (addW l1 (yh1, yh2) ws (j + 1)).length)) := (decide_eq_true (by rw [HNA.out, List.length_append, List.length_singleton]; omega)).symm
        clear HJ5 HSZ HAB HNA HBI e1 ho hk hf hs5 p0 p1 p2 p3 p4 p5 p6 p7 p8
        go_wp2_with fail
        go_roundg (m - (j + 1))
        case measure => omega
        case rel => exact ⟨j + 1, true, _, by omega, rfl, by go_num, rfl, rfl, HAN, HN2⟩
      ·obtain rfl : m = j := by omega
       have hjI : ¬ (m : Int) < (m : Int) := by omega
       have e1 : addW l1 (yh1, yh2) ws m = runP l0 F (i + 1) := by
        rw [HNX.out, ← HWS.out]
        exact addW_all (y := ((yh1, yh2), yk, yo, (ya1, ya2), (yb1, yb2), yi)) (by rw [HWS.out]; exact HM.out)
       have HN2 : Hid (KF W wr ∧ OwnK prE bs wr lv (runP l0 F (i + 1)) ∧ EvI F (runP l0 F (i + 1))) := by
        have q := HI.out
        rw [e1] at q
        exact ⟨q.1, q.2.1, HE0.out.runP (i + 1)⟩
       have HAN : Hid (ab = decide (l0.length < (runP l0 F (i + 1)).length)) := by rw [← e1]; exact HAB.out
       clear HI HAB HNX e1
       go_wp2_with fail
       go_roundg (n - (i + 1))
       case measure => omega
       case rel => exact ⟨i + 1, ab, _, by omega, rfl, by go_num, rfl, rfl, HAN, HN2⟩
    ·obtain rfl : n = i := by omega
     have hiI : ¬ (n : Int) < (n : Int) := by omega
     obtain ⟨l2, hl2⟩ : ∃ l2, runP l0 F n = l2 := ⟨_, rfl⟩
     have hfl := fold_len F l0
     rw [← runP_all HN.out, hl2] at hfl
     rw [hl2] at HI HAB
     have HGN : Hid (ab = true → B + 1 ≤ (g0 - 1) + l2.length) := fun e => by
      have q := HAB.out
      rw [e] at q
      have := of_decide_eq_true q.symm
      omega
     have HSN : Hid (ab = false → ShutP F l2) := fun e => by
      have q := HAB.out
      rw [e] at q
      have := of_decide_eq_false q.symm
      obtain ⟨c1, c2⟩ := hfl.2 (by omega)
      rw [c1]
      exact c2
     have hg1 : 0 < g0 := by omega
     clear HAB hl2 hfl
     go_wp2_with fail
     go_roundg (g0 - 1)
     case measure => omega
     case rel => exact ⟨g0 - 1, ab, _, l2, rfl, rfl, rfl, HGN, HI, HSN⟩
  case false =>
   have HE : Hid (KF W wr ∧ ∃ l, RdK prE wr lv l ∧ EvI F l ∧ ShutP F l) := ⟨HI.out.1, l0, HI.out.2.1.reads, HI.out.2.2, HSH.out rfl⟩
   clear HI HSH HG
   go_wp2_with fail
   go_ret
   exact ⟨_, rfl, HE⟩
end Go.Proofs.YtckikkkdabpjkaaGreat
