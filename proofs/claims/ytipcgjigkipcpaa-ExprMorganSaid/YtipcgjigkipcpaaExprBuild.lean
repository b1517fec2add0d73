/-
  The diagram of a formula.
-/
import Derived.Test.YtipcgjigkipcpaaExprRights
import Derived.Test.YtipcgjigkipcpaaExprAt
import Derived.Test.YtipcgjigkipcpaaOrdRows
import Derived.Test.YtipcgjigkipcpaaKit3
set_option linter.unusedVariables false
set_option linter.unusedSimpArgs false
set_option linter.unnecessarySimpa false
namespace Go.Proofs.Ytipcgjigkipcpaa
open Go.ChangeShapes Go.WideShapes Go.ChangeAt Go.RowKit Go.Deep NodePlain
theorem cell_other {w : World} {b o g q : Nat} {v : Value} (h : g ≠ b ∨ q ≠ o) : (w.setCell ⟨b, o, none⟩ v).cell? ⟨g, q, none⟩ = w.cell? ⟨g, q, none⟩ :=
  World.cell?_setCell_other _ _ _ _ (by intro e; simp only [Addr.mk.injEq] at e; omega)
theorem bld_ge {V B : Int} (l : List Sp) (st : St) : ∀ i j, i ≤ j → (bldTo V B l st i).1 j = 0
  | 0, j, _ => rfl
  | i + 1, j, h => by
    show (if j = i then _ else (bldTo V B l st i).1 j) = 0
    rw [if_neg (by omega)]
    exact bld_ge l st i j (by omega)
/-- Behind so many steps: the maker, and the numbers of their diagrams at fb. -/
structure BldS (W : World) (db fb n : Nat) (V B : Int) (l : List Sp) (st : St) (calls : Int) (Fp : Nat → Prop) (j : Nat) (c : Int) (F : Nat → Prop) (wy : World) : Prop where
  bd : Bd wy db V B (bldTo V B l st j).2 c F
  mv : Mv W wy Fp F
  c0 : calls ≤ c
  c1 : c ≤ calls + ((2 * j : Nat) : Int)
  row : IRow wy fb n (bldTo V B l st j).1
  nf : ¬ F fb
  fb : W.heap.size ≤ fb
section
variable {W wy W2 : World} {db fb n : Nat} {V B : Int} {l : List Sp} {st : St} {calls c c2 : Int} {Fp F F2 : Nat → Prop} {j : Nat}
theorem BldS.quiet (h : BldS W db fb n V B l st calls Fp j c F wy) (hk : Keeps (fun _ => False) wy W2) : BldS W db fb n V B l st calls Fp j c F W2 :=
  ⟨h.bd.quiet hk, h.mv.trans (Mv.quiet hk), h.c0, h.c1, h.row.keeps hk (fun x => x), h.nf, h.fb⟩
theorem BldS.cell (h : BldS W db fb n V B l st calls Fp j c F wy) {x : Nat} (hx : x < n) : wy.cell? ⟨fb, x, none⟩ = some (.int .i64 ((bldTo V B l st j).1 x)) := h.row.cell hx
/-- A step's diagram made, ahead of its being kept. -/
theorem BldS.made (h : BldS W db fb n V B l st calls Fp j c F wy) (hm : Mv wy W2 F F2) : IRow W2 fb n (bldTo V B l st j).1 ∧ ¬ F2 fb := by
  refine ⟨h.row.keeps hm.keeps h.nf, fun hx => ?_⟩
  rcases hm.fp fb hx with e | e
  · exact h.nf e
  · have := lt_of_heap h.row; omega
theorem BldS.step (h : BldS W db fb n V B l st calls Fp j c F wy) {s : Sp} (hs : l[j]? = some s) (hj : j < n) {r : Int × St} (hr : bld1 V B (bldTo V B l st j).1 (bldTo V B l st j).2 s = r) (hb : Bd W2 db V B r.2 c2 F2) (hm : Mv wy W2 F F2) (h0 : c ≤ c2) (h1 : c2 ≤ c + 2) :
    BldS W db fb n V B l st calls Fp (j + 1) c2 F2 (W2.setCell ⟨fb, j, none⟩ (.int .i64 r.1)) := by
  obtain ⟨hrow, hnf⟩ := h.made hm
  have hk : Keeps (fun x => x = fb) W2 (W2.setCell ⟨fb, j, none⟩ (.int .i64 r.1)) := Keeps.setCell (S := fun x => x = fb) (Keeps.refl _ W2) (p := ⟨fb, j, none⟩) (fun _ => rfl) _
  have hfb := h.fb
  have hc0 := h.c0
  have hc1 := h.c1
  refine ⟨?_, ⟨(h.mv.trans hm).keeps.trans_new hk (fun i hi e => by omega), (h.mv.trans hm).fp⟩, by omega, by omega, ?_, hnf, hfb⟩
  · have := hb.keeps hk (fun x hx e => hnf (e ▸ hx))
    rw [bldTo, getD_of hs, hr]
    exact this
  · have := hrow.set hj r.1
    rw [bldTo, getD_of hs, hr]
    exact this
theorem BldS.stay (h : BldS W db fb n V B l st calls Fp j c F wy) {s : Sp} (hs : l[j]? = some s) (hj : j < n) (hr : bld1 V B (bldTo V B l st j).1 (bldTo V B l st j).2 s = (0, (bldTo V B l st j).2)) : BldS W db fb n V B l st calls Fp (j + 1) c F wy := by
  have hc1 := h.c1
  refine ⟨?_, h.mv, h.c0, by omega, ?_, h.nf, h.fb⟩
  · rw [bldTo, getD_of hs, hr]
    exact h.bd
  · rw [bldTo, getD_of hs, hr]
    refine h.row.congr fun i hi => ?_
    show (bldTo V B l st j).1 i = if i = j then 0 else (bldTo V B l st j).1 i
    by_cases e : i = j
    · rw [if_pos e, e, bld_ge l st j j (Nat.le_refl _)]
    · rw [if_neg e]
end
/-- What a formula's diagram leaves. -/
def BuildPost (W : World) (db : Nat) (V B : Int) (l : List Sp) (st : St) (calls : Int) (Fp : Nat → Prop) (e : Ending) (W' : World) : Prop :=
  e = .returned (.tuple #[.int .i64 (bldN V B l st).1, .bool true]) ∧ Hid (∃ c F, Bd W' db V B (bldN V B l st).2 c F ∧ Mv W W' Fp F ∧ calls ≤ c ∧ c ≤ calls + ((2 * l.length : Nat) : Int))
set_option maxRecDepth 100000
set_option maxHeartbeats 3200000
theorem build_no {W : World} {db : Nat} {V B : Int} {st : St} {calls : Int} {Fp : Nat → Prop} (h : Bd W db V B st calls Fp) {ao : Option Addr} {n cap : Nat} {l : List Sp} (hl : l.length = n) (hcap : n ≤ cap) (hr : SpRow W ao l) (hok : rightE V l = false) :
    Calls Try.prog 35 #[.pointer (some ⟨db, 0, none⟩), .slice ao n cap] W fun e W' => e = .returned (.tuple #[.int .i64 0, .bool false]) ∧ Keeps (fun _ => False) W W' := by
  have HC := Lib.hid (eright_spec W V hl hcap hr)
  have HV := Lib.hid (bvars_spec h)
  rw [hok] at HC
  clear hr h
  go_enter Try.func35, Try.ntmps35
  go_wp2_with fail
  refine HV.out.mono ?_
  rintro e w1 ⟨rfl, rfl⟩
  go_wp2_with fail
  refine HC.out.mono ?_
  rintro e w1 ⟨rfl, hk⟩
  have HK := Lib.hid hk
  clear hk
  go_wp2_with fail
  go_ret2
  exact ⟨rfl, HK.out⟩
theorem build_spec {W : World} {db : Nat} {V B : Int} {st : St} {kc : Nat} {calls : Int} {Fp : Nat → Prop} (h : Bd W db V B st calls Fp) (hV0 : 0 ≤ V) (hV : V ≤ 8) (hf : Fine V B kc st) {ao : Option Addr} {n cap : Nat} {l : List Sp} (hl : l.length = n) (hcap : n ≤ cap) (hr : SpRow W ao l) (hra : ∀ b off, ao = some ⟨b, off, none⟩ → ¬ Fp b) (hok : rightE V l = true)
    (hkc : kc + 2 * n ≤ 30000) (hc0 : 0 ≤ calls) (hc1 : calls ≤ 1000000) (room : ((st.n + n * (2 * 2 ^ V.toNat) : Nat) : Int) < B) :
    Calls Try.prog 35 #[.pointer (some ⟨db, 0, none⟩), .slice ao n cap] W (BuildPost W db V B l st calls Fp) := by
  obtain ⟨i0, hi0, hz0, hz1, hz2⟩ := info_parts iinfo
  have HC := Lib.hid (eright_spec W V hl hcap hr)
  have HVR := Lib.hid (bvars_spec h)
  rw [hok] at HC
  have HR := Lib.hid hr
  have HRA := Lib.hid hra
  have HL := Lib.hid hl
  obtain ⟨_, _, hn1, hn2⟩ := right_len hok
  rw [hl] at hn1 hn2
  have HOK : Hid (∀ j s, l[j]? = some s → OkS V j s) := fun j s h => by
    have hj : j < l.length := by
      rcases Nat.lt_or_ge j l.length with h' | h'
      · exact h'
      · rw [List.getElem?_eq_none h'] at h; cases h
    have := right_at hok hj
    rw [getD_of h] at this
    exact this
  have HINV : Hid (∀ i, i ≤ n → BInv V B kc st l i (bldTo V B l st i)) := fun i hi => binv_all hV0 hV hf hok (by rw [hl]; exact room) i (by omega)
  have HH := Lib.hid h
  have HEND : Hid (∀ e W', e = .returned (.tuple #[.int .i64 ((bldTo V B l st n).1 (n - 1)), .bool true]) → (∃ c F, Bd W' db V B (bldTo V B l st n).2 c F ∧ Mv W W' Fp F ∧ calls ≤ c ∧ c ≤ calls + ((2 * n : Nat) : Int)) → BuildPost W db V B l st calls Fp e W') := fun e W' he hx => by
    unfold BuildPost bldN
    rw [hl]
    exact ⟨he, hx⟩
  have HNS : Hid ((bldTo V B l st n).2.s = false) := by
    show (bldTo V B l st n).2.s = false
    have q := HINV.out n (Nat.le_refl _)
    exact fine_ns q.fine (by have := q.n; omega)
  have HKC := Lib.hid hkc
  clear hr h hok hl hra room hf hkc
  go_enter Try.func35, Try.ntmps35
  go_wp2_with fail
  refine HVR.out.mono ?_
  rintro e w1 ⟨rfl, rfl⟩
  go_wp2_with fail
  refine HC.out.mono ?_
  rintro e w0 ⟨rfl, hk0⟩
  have HK0 := Lib.hid hk0
  clear HC HVR hk0
  go_wp2_with (at_make; refine wpList_make_full _ rfl _ _ 28 rfl w0.heap.size 3 i0 _ 1 Try.underlying28 hi0 hz0 hz1 .i64 .i64 _ _ n rfl rfl rfl rfl (by rw [hz2]; omega) (by unfold maxLen; omega) (Nat.le_refl _) ?_)
  intro w1 hown hgrow
  have k1 : Keeps (fun _ => False) w0 w1 := (keeps_grown hgrow).mono (fun _ _ h => by cases h)
  have hmade : IRow w1 w0.heap.size n (fun _ => 0) := by
    have e := block_of_made (z := #[Value.int .i64 0]) (size := 1) (n := n) (by rw [Nat.mul_one]; exact hown)
    have e2 := imade n
    unfold IRow
    rw [e]
    exact congrArg (fun c => some (Obj.cells c _ _)) e2
  obtain ⟨fb, hfb⟩ : ∃ fb, w0.heap.size = fb := ⟨_, rfl⟩
  have hS : BldS W db fb n V B l st calls Fp 0 calls Fp w1 := by
    have hkw := HK0.out.trans k1
    rw [hfb] at hmade
    have hsz := HK0.out.size
    exact ⟨HH.out.quiet hkw, Mv.quiet hkw, Int.le_refl _, by omega, hmade, fun hx => by have := HH.out.lt _ hx; omega, by omega⟩
  rw [hfb]
  have HS : Hid (∃ c F, BldS W db fb n V B l st calls Fp 0 c F w1) := ⟨_, _, hS⟩
  clear hown hgrow k1 hmade hS hfb HK0
  go_wp2_with fail
  go_loopg [19] n (fun g t wy => ∃ (j : Nat), j ≤ n ∧ g = n - j ∧ t = .int .i64 j ∧ Hid (∃ c F, BldS W db fb n V B l st calls Fp j c F wy))
  case atStart => exact ⟨0, Nat.zero_le _, rfl, rfl, HS⟩
  case round =>
    clear HS
    obtain ⟨j, hj, rfl, rfl, HI⟩ := hrel
    obtain ⟨c, F, hI⟩ := HI.out
    clear HI
    by_cases hlt : j < n
    · have hjI : (j : Int) < (n : Int) := by omega
      have hwj : IntKind.i64.wrap ((j : Int) + 1) = (j : Int) + 1 := IntWalk.i64_in _ (by omega)
      obtain ⟨⟨op, a, b⟩, hs⟩ : ∃ s, l[j]? = some s := ⟨_, List.getElem?_eq_getElem (by have := HL.out; omega)⟩
      obtain ⟨bb, off, hao, hbb, hcc⟩ := HR.out.keeps hI.mv.keeps (fun b off e _ => HRA.out b off e) (by have := HL.out; omega)
      subst hao
      obtain ⟨c0, c1, c2⟩ := hcc j _ hs
      simp only [] at c0 c1 c2
      have hjc : j < cap := by omega
      have hal := (MapKept.heap_alloc wr (.cells #[.int .i64 op, .int .i64 a, .int .i64 b] 107)).1
      have hI1 := hI.quiet ((Keeps.refl (fun _ => False) wr).alloc (.cells #[.int .i64 op, .int .i64 a, .int .i64 b] 107))
      have hbF : ¬ F wr.heap.size := fun hx => by have := hI.bd.lt _ hx; omega
      have hbf : wr.heap.size ≠ fb := by have := lt_of_heap hI.row; omega
      have d0 := cell_of_heap hal 0
      have d1 := cell_of_heap hal 1
      have d2 := cell_of_heap hal 2
      simp only [List.getElem?_toArray, List.getElem?_cons_zero, List.getElem?_cons_succ] at d0 d1 d2
      have HO : Hid (OkS V j ⟨op, a, b⟩) := HOK.out j _ hs
      have PI := Lib.hid (HINV.out j (by omega))
      have HS := Lib.hid hs
      have HI1 := Lib.hid hI1
      have HBF := Lib.hid (And.intro hbF hbf)
      clear hcc hI hI1 hs hbF hbf
      go_upto_region 7 with fail
      obtain ⟨bx, hbx⟩ : ∃ bx, wr.heap.size = bx := ⟨_, rfl⟩
      have hbxl : bx < (wr.alloc (.cells #[.int .i64 op, .int .i64 a, .int .i64 b] 107)).heap.size := by rw [← hbx]; exact lt_of_heap hal
      clear hal
      generalize wr.alloc (.cells #[.int .i64 op, .int .i64 a, .int .i64 b] 107) = w1 at *
      rw [hbx] at HBF d0 d1 d2 ⊢
      clear c0 c1 c2
      have HSTEP : Hid (∀ (r : Int × St) (W2 : World) (c2 : Int) (F2 : Nat → Prop), bld1 V B (bldTo V B l st j).1 (bldTo V B l st j).2 ⟨op, a, b⟩ = r → Bd W2 db V B r.2 c2 F2 → Mv w1 W2 F F2 → c ≤ c2 → c2 ≤ c + 2 → BldS W db fb n V B l st calls Fp (j + 1) c2 F2 (W2.setCell ⟨fb, j, none⟩ (.int .i64 r.1)) ∧ (∃ y, W2.cell? ⟨fb, j, none⟩ = some (.int .i64 y)) ∧ W2.frozen? ⟨fb, j, none⟩ = false ∧ fb < W2.heap.size) := fun r W2 c2 F2 hr hb hm h0 h1 => by
        obtain ⟨hrow, _⟩ := HI1.out.made hm
        exact ⟨HI1.out.step HS.out hlt hr hb hm h0 h1, ⟨_, hrow.cell hlt⟩, free_of_heap hrow j, lt_of_heap hrow⟩
      have HSTAY : Hid (bld1 V B (bldTo V B l st j).1 (bldTo V B l st j).2 ⟨op, a, b⟩ = (0, (bldTo V B l st j).2) → BldS W db fb n V B l st calls Fp (j + 1) c F w1) := fun h => HI1.out.stay HS.out hlt h
      obtain ⟨⟨R, st1⟩, hR⟩ : ∃ p, bldTo V B l st j = p := ⟨_, rfl⟩
      have hcl : ∀ x, x < n → w1.cell? ⟨fb, x, none⟩ = some (.int .i64 (R x)) := fun x hx => by
        have := HI1.out.cell hx
        rw [hR] at this
        exact this
      have HCL := Lib.hid hcl
      have hBD : Bd w1 db V B st1 c F := by
        have := HI1.out.bd
        rw [hR] at this
        exact this
      have HBD := Lib.hid hBD
      have hcc0 := HI1.out.c0
      have hcc1 := HI1.out.c1
      rw [hR] at HSTEP HSTAY PI
      simp only [] at HSTEP HSTAY
      have hkc2 : kc + 2 * j ≤ 30000 := by have := HKC.out; omega
      have hcN : 0 ≤ c := by omega
      have hcM : c ≤ 100000000 := by omega
      obtain ⟨cj, hcj⟩ := (⟨_, hcl j hlt⟩ : ∃ y, w1.cell? ⟨fb, j, none⟩ = some y)
      have HNF0 : Hid (¬ F fb) := HI1.out.nf
      clear hR hcl hBD HI1 HS
      rcases HO.out.of with ⟨h1, av, ha, hav, hb⟩ | ⟨h2, av, ha, hav, hb⟩ | ⟨av, bv, ha, hav, hb, hbv, h345⟩ | ⟨ha, hb, h67⟩
      · (try simp only [] at h1 ha hb)
        subst h1 ha hb
        have HC1 := Lib.hid (blit_spec HBD.out PI.out.fine.wf hkc2 (v := (av : Int)) (by omega) (by omega) hcN hcM)
        obtain ⟨r, hr⟩ : ∃ r, opG st1 (makeM V B st1 (av : Int) 0 1) = r := ⟨_, rfl⟩
        rw [hr] at HC1
        have HR1 : Hid (bld1 V B R st1 ⟨1, (av : Int), 0⟩ = r) := by show bld1 V B R st1 ⟨1, (av : Int), 0⟩ = r; exact hr
        clear hr HBD PI HO HCL HSTAY
        go_wp2_with fail
        refine HC1.out.mono ?_
        rintro e w2 ⟨rfl, hb2⟩
        obtain ⟨F2, hb, hm⟩ := hb2.out
        obtain ⟨hst, ⟨y, cy⟩, fy, ly⟩ := HSTEP.out r w2 (c + 1) F2 HR1.out hb hm (by omega) (by omega)
        have HN : Hid (∃ c F, BldS W db fb n V B l st calls Fp (j + 1) c F (w2.setCell ⟨fb, j, none⟩ (.int .i64 r.1))) := ⟨_, _, hst⟩
        clear hb hm hb2 hst HSTEP HC1 HR1 d0 d1 d2 hcj
        go_wp2_with fail
        go_roundg (n - (j + 1))
        case measure => omega
        case rel => exact ⟨j + 1, by omega, rfl, by go_num, HN⟩
      · (try simp only [] at h2 ha hb)
        subst h2 ha hb
        have cA := HCL.out av (by omega)
        have havI : (av : Int) < (n : Int) := by omega
        have ha0 : (0 : Int) ≤ (av : Int) := by omega
        have hna : av < n := by omega
        have HC1 := Lib.hid (bnot_spec hV0 hV HBD.out PI.out.fine.wf hkc2 (PI.out.is av) hcN hcM)
        obtain ⟨r, hr⟩ : ∃ r, opG st1 (iteT V B st1 (R av) 0 1) = r := ⟨_, rfl⟩
        have HC2 : Hid (Calls Try.prog 58 #[.pointer (some ⟨db, 0, none⟩), .int .i64 (R av)] w1 fun e W' => e = .returned (.int .i64 r.1) ∧ Hid (BdTo db V B r.2 (c + 1) w1 F W')) := by rw [← hr]; exact HC1.out
        have HR1 : Hid (bld1 V B R st1 ⟨2, (av : Int), 0⟩ = r) := by show bld1 V B R st1 ⟨2, (av : Int), 0⟩ = r; exact hr
        obtain ⟨x, hx⟩ : ∃ x, R av = x := ⟨_, rfl⟩
        rw [hx] at cA HC2
        clear hr HBD PI HO HCL HSTAY HC1 hx
        go_wp2_with fail
        refine HC2.out.mono ?_
        rintro e w2 ⟨rfl, hb2⟩
        obtain ⟨F2, hb, hm⟩ := hb2.out
        obtain ⟨hst, ⟨y, cy⟩, fy, ly⟩ := HSTEP.out r w2 (c + 1) F2 HR1.out hb hm (by omega) (by omega)
        have HN : Hid (∃ c F, BldS W db fb n V B l st calls Fp (j + 1) c F (w2.setCell ⟨fb, j, none⟩ (.int .i64 r.1))) := ⟨_, _, hst⟩
        clear hb hm hb2 hst HSTEP HC2 HR1 d0 d1 d2 hcj cA
        go_wp2_with fail
        go_roundg (n - (j + 1))
        case measure => omega
        case rel => exact ⟨j + 1, by omega, rfl, by go_num, HN⟩
      · (try simp only [] at ha hb h345)
        subst ha hb
        have cA := HCL.out av (by omega)
        have cB := HCL.out bv (by omega)
        have havI : (av : Int) < (n : Int) := by omega
        have hbvI : (bv : Int) < (n : Int) := by omega
        have ha0 : (0 : Int) ≤ (av : Int) := by omega
        have hb0 : (0 : Int) ≤ (bv : Int) := by omega
        have hna : av < n := by omega
        have hnb : bv < n := by omega
        have hIA : isN st1.n (R av) = true := PI.out.is av
        have hIB : isN st1.n (R bv) = true := PI.out.is bv
        obtain ⟨x, hx⟩ : ∃ x, R av = x := ⟨_, rfl⟩
        obtain ⟨y, hy⟩ : ∃ x, R bv = x := ⟨_, rfl⟩
        rw [hx] at cA hIA
        rw [hy] at cB hIB
        have hlf : fb < w1.heap.size := lt_of_cell cA
        have HSK : Hid (∀ (W' : World) (G : Nat → Prop), Keeps G w1 W' → ¬ G bx → ¬ G fb → (fun w' => w'.cell? ⟨bx, 1, none⟩ = some (.int .i64 (av : Int)) ∧ w'.cell? ⟨bx, 2, none⟩ = some (.int .i64 (bv : Int)) ∧ w'.cell? ⟨fb, av, none⟩ = some (.int .i64 x) ∧ w'.cell? ⟨fb, bv, none⟩ = some (.int .i64 y)) W') := fun W' G hk g1 g2 => ⟨(hk.cell (p := ⟨bx, 1, none⟩) hbxl g1).trans d1, (hk.cell (p := ⟨bx, 2, none⟩) hbxl g1).trans d2, (hk.cell (p := ⟨fb, av, none⟩) hlf g2).trans cA, (hk.cell (p := ⟨fb, bv, none⟩) hlf g2).trans cB⟩
        have H5 : (fun w' => w'.cell? ⟨bx, 1, none⟩ = some (.int .i64 (av : Int)) ∧ w'.cell? ⟨bx, 2, none⟩ = some (.int .i64 (bv : Int)) ∧ w'.cell? ⟨fb, av, none⟩ = some (.int .i64 x) ∧ w'.cell? ⟨fb, bv, none⟩ = some (.int .i64 y)) w1.drew := HSK.out _ (fun _ => False) ((Keeps.refl _ _).drew) (fun x => x) (fun x => x)
        have HNF : Hid (¬ F fb) := HNF0.out
        rcases h345 with h | h | h
        · subst h
          obtain ⟨r, hr⟩ : ∃ r, opG st1 (andT V B [x, y] (1, st1)) = r := ⟨_, rfl⟩
          have HR1 : Hid (bld1 V B R st1 ⟨3, (av : Int), (bv : Int)⟩ = r) := by
            show bld1 V B R st1 ⟨3, (av : Int), (bv : Int)⟩ = r
            have hr2 : opG st1 (andT V B [R av, R bv] (1, st1)) = r := by rw [hx, hy]; exact hr
            exact hr2
          have HC1 : Hid (∀ W' : World, Keeps (fun _ => False) w1 W' → Calls Try.prog 36 #[.pointer (some ⟨db, 0, none⟩), .slice (some ⟨W'.heap.size, 0, none⟩) 2 2] (W'.alloc (.cells #[.int .i64 x, .int .i64 y] 3)) fun e W2 => e = .returned (.int .i64 r.1) ∧ Hid (BdTo db V B r.2 (c + 2) (W'.alloc (.cells #[.int .i64 x, .int .i64 y] 3)) F W2)) := fun W' hk => by
            have hk2 : Keeps (fun _ => False) w1 (W'.alloc (.cells #[.int .i64 x, .int .i64 y] 3)) := hk.alloc _
            have qq := band_spec hV0 hV (HBD.out.quiet hk2) PI.out.fine.wf hkc2 (l := [x, y]) (by intro z hz; simp only [List.mem_cons, List.not_mem_nil, or_false] at hz; rcases hz with rfl | rfl; exact hIA; exact hIB) (n := 2) rfl (Nat.le_refl 2) (by omega) (numRow2 (MapKept.heap_alloc W' _).1) (fun b e hF => by simp only [Option.some.injEq, Addr.mk.injEq, and_true] at e; have := HBD.out.lt b hF; have := hk.size; omega) hcN hcM
            rw [hr] at qq
            exact qq
          clear hr HBD PI HO HCL HSTAY hx hy hIA hIB
          go_upto_region 13 with fail
          clear d0 d1 d2 cA cB
          refine wp_region_noPanic ?_
          refine wp_region_held_drew (S := (fun w' => w'.cell? ⟨bx, 1, none⟩ = some (.int .i64 (av : Int)) ∧ w'.cell? ⟨bx, 2, none⟩ = some (.int .i64 (bv : Int)) ∧ w'.cell? ⟨fb, av, none⟩ = some (.int .i64 x) ∧ w'.cell? ⟨fb, bv, none⟩ = some (.int .i64 y))) (by kernel_rfl) H5 (fun hHeld => ?_)
          refine wpAnyH_take_at (i := 0) (v := ?v0k3) rfl (by kernel_rfl) (by kernel_rfl) (by kernel_rfl) (fun _ _ _ h => h) (Or.inl ⟨by rfl, ?y0k3⟩) hHeld ?r0k3
          case y0k3 => (intro w hSw; (try dsimp only at hSw); go_simp; first | done | with_reducible rfl)
          (try simp only [Act.put, List.setIfInBounds_toArray, List.set_cons_zero, List.set_cons_succ])
          refine wpAnyH_take_at (i := 1) (v := ?v1k3) rfl (by kernel_rfl) (by kernel_rfl) (by kernel_rfl) (fun _ _ _ h => h) (Or.inl ⟨by rfl, ?y1k3⟩) hHeld ?r1k3
          case y1k3 => (intro w hSw; (try dsimp only at hSw); go_simp; first | done | with_reducible rfl)
          (try simp only [Act.put, List.setIfInBounds_toArray, List.set_cons_zero, List.set_cons_succ])
          refine wpAnyH_take_at (i := 2) (v := ?v2k3) rfl (by kernel_rfl) (by kernel_rfl) (by kernel_rfl) (fun _ _ _ h => h) (Or.inl ⟨by rfl, ?y2k3⟩) hHeld ?r2k3
          case y2k3 => (intro w hSw; (try dsimp only at hSw); go_simp; first | done | with_reducible rfl)
          (try simp only [Act.put, List.setIfInBounds_toArray, List.set_cons_zero, List.set_cons_succ])
          refine wpAnyH_take_at (i := 3) (v := ?v3k3) rfl (by kernel_rfl) (by kernel_rfl) (by kernel_rfl) (fun _ _ _ h => h) (Or.inl ⟨by rfl, ?y3k3⟩) hHeld ?r3k3
          case y3k3 => (intro w hSw; (try dsimp only at hSw); go_simp; first | done | with_reducible rfl)
          (try simp only [Act.put, List.setIfInBounds_toArray, List.set_cons_zero, List.set_cons_succ])
          refine wpAnyH_take_at (i := 4) (v := ?v4k3) rfl (by kernel_rfl) (by kernel_rfl) (by kernel_rfl) (fun _ _ _ h => h) (Or.inl ⟨by rfl, ?y4k3⟩) hHeld ?r4k3
          case y4k3 => (intro w hSw; (try dsimp only at hSw); go_simp; first | done | with_reducible rfl)
          (try simp only [Act.put, List.setIfInBounds_toArray, List.set_cons_zero, List.set_cons_succ])
          refine wpAnyH_take_at (i := 5) (v := ?v5k3) rfl (by kernel_rfl) (by kernel_rfl) (by kernel_rfl) (fun _ _ _ h => h) (Or.inl ⟨by rfl, ?y5k3⟩) hHeld ?r5k3
          case y5k3 => (intro w hSw; (try dsimp only at hSw); go_simp; first | done | with_reducible rfl)
          (try simp only [Act.put, List.setIfInBounds_toArray, List.set_cons_zero, List.set_cons_succ])
          refine wpAnyH_take_at (i := 6) (v := ?v6k3) rfl (by kernel_rfl) (by kernel_rfl) (by kernel_rfl) (fun _ _ _ h => h) (Or.inl ⟨by rfl, ?y6k3⟩) hHeld ?r6k3
          case y6k3 => (intro w hSw; (try dsimp only at hSw); go_simp; first | done | with_reducible rfl)
          (try simp only [Act.put, List.setIfInBounds_toArray, List.set_cons_zero, List.set_cons_succ])
          refine wpAnyH_take_at (i := 7) (v := ?v7k3) rfl (by kernel_rfl) (by kernel_rfl) (by kernel_rfl) (fun _ _ _ h => h) (Or.inl ⟨by rfl, ?y7k3⟩) hHeld ?r7k3
          case y7k3 => (intro w hSw; (try dsimp only at hSw); go_simp; first | done | with_reducible rfl)
          (try simp only [Act.put, List.setIfInBounds_toArray, List.set_cons_zero, List.set_cons_succ])
          refine wpAnyH_take_at (i := 8) (v := ?v8k3) rfl (by kernel_rfl) (by kernel_rfl) (by kernel_rfl) (fun _ _ _ h => h) (Or.inl ⟨by rfl, ?y8k3⟩) hHeld ?r8k3
          case y8k3 => (intro w hSw; (try dsimp only at hSw); go_simp; first | done | with_reducible rfl)
          (try simp only [Act.put, List.setIfInBounds_toArray, List.set_cons_zero, List.set_cons_succ])
          refine wpAnyH_take_at (i := 9) (v := ?v9k3) rfl (by kernel_rfl) (by kernel_rfl) (by kernel_rfl) (fun _ _ _ h => h) (Or.inl ⟨by rfl, ?y9k3⟩) hHeld ?r9k3
          case y9k3 => (intro w hSw; (try dsimp only at hSw); go_simp; first | done | with_reducible rfl)
          (try simp only [Act.put, List.setIfInBounds_toArray, List.set_cons_zero, List.set_cons_succ])
          refine wpAnyH_take_at (i := 10) (v := ?v10k3) rfl (by kernel_rfl) (by kernel_rfl) (by kernel_rfl) (fun _ _ _ h => h) (Or.inl ⟨by rfl, ?y10k3⟩) hHeld ?r10k3
          case y10k3 => (intro w hSw; (try dsimp only at hSw); go_simp; first | done | with_reducible rfl)
          (try simp only [Act.put, List.setIfInBounds_toArray, List.set_cons_zero, List.set_cons_succ])
          refine wpAnyH_take_at (i := 11) (v := ?v11k3) rfl (by kernel_rfl) (by kernel_rfl) (by kernel_rfl) (fun _ _ _ h => h) (Or.inl ⟨by rfl, ?y11k3⟩) hHeld ?r11k3
          case y11k3 => (intro w hSw; (try dsimp only at hSw); go_simp; first | done | with_reducible rfl)
          (try simp only [Act.put, List.setIfInBounds_toArray, List.set_cons_zero, List.set_cons_succ])
          refine wpAnyH_take_at (i := 12) (v := ?v12k3) rfl (by kernel_rfl) (by kernel_rfl) (by kernel_rfl) (fun _ _ _ h => h) (Or.inl ⟨by rfl, ?y12k3⟩) hHeld ?r12k3
          case y12k3 => (intro w hSw; (try dsimp only at hSw); go_simp; first | done | with_reducible rfl)
          (try simp only [Act.put, List.setIfInBounds_toArray, List.set_cons_zero, List.set_cons_succ])
          refine wpAnyH_one (i := 13) (by kernel_rfl) rfl (fun KK hK => ?_)
          go_simp
          refine hK.out _ _ ?s13k3 (fun hHeld => ?_)
          case s13k3 => exact HSK.out _ (fun _ => False) (((Keeps.refl _ _).drew).alloc _) (fun x => x) (fun x => x)
          clear hK KK
          (try simp only [Act.put, List.setIfInBounds_toArray, List.set_cons_zero, List.set_cons_succ])
          refine wpAnyH_one (i := 14) (by kernel_rfl) rfl (fun KK hK => ?_)
          go_simp
          refine (HC1.out _ ((Keeps.refl _ _).drew)).mono ?_
          rintro e w2 ⟨rfl, hb2⟩
          go_simp
          obtain ⟨F2, hb, hm0⟩ := hb2.out
          have hm : Mv w1 w2 F F2 := (Mv.quiet (Fp := F) ((Keeps.refl (fun _ => False) w1).drew.alloc _)).trans hm0
          obtain ⟨hst, ⟨yy, cy⟩, fy, ly⟩ := HSTEP.out r w2 (c + 2) F2 HR1.out hb hm (by omega) (by omega)
          have hs6 := HSK.out _ _ hm.keeps HBF.out.1 HNF.out
          have hs7 : (fun w' => w'.cell? ⟨bx, 1, none⟩ = some (.int .i64 (av : Int)) ∧ w'.cell? ⟨bx, 2, none⟩ = some (.int .i64 (bv : Int)) ∧ w'.cell? ⟨fb, av, none⟩ = some (.int .i64 x) ∧ w'.cell? ⟨fb, bv, none⟩ = some (.int .i64 y)) (w2.setCell ⟨fb, j, none⟩ (.int .i64 r.1)) := by
            have kk : ∀ g o, (g ≠ fb ∨ o ≠ j) → (w2.setCell ⟨fb, j, none⟩ (.int .i64 r.1)).cell? ⟨g, o, none⟩ = w2.cell? ⟨g, o, none⟩ := fun g o h => cell_other h
            exact ⟨(kk _ _ (.inl HBF.out.2)).trans hs6.1, (kk _ _ (.inl HBF.out.2)).trans hs6.2.1, (kk _ _ (.inr (by omega))).trans hs6.2.2.1, (kk _ _ (.inr (by omega))).trans hs6.2.2.2⟩
          have HN : Hid (∃ c F, BldS W db fb n V B l st calls Fp (j + 1) c F (w2.setCell ⟨fb, j, none⟩ (.int .i64 r.1))) := ⟨_, _, hst⟩
          clear hb hm0 hm hst HSTEP HC1 HR1 hb2
          refine hK.out _ _ ?s14k3 (fun hHeld => ?_)
          case s14k3 => exact hs6
          clear hK KK
          (try simp only [Act.put, List.setIfInBounds_toArray, List.set_cons_zero, List.set_cons_succ])
          refine wpAnyH_take_at (i := 15) (v := ?v15k3) rfl (by kernel_rfl) (by kernel_rfl) (by kernel_rfl) (fun _ _ _ h => h) (Or.inl ⟨by rfl, ?y15k3⟩) hHeld ?r15k3
          case y15k3 => (intro w hSw; (try dsimp only at hSw); go_simp; first | done | with_reducible rfl)
          (try simp only [Act.put, List.setIfInBounds_toArray, List.set_cons_zero, List.set_cons_succ])
          refine wpAnyH_one (i := 16) (by kernel_rfl) rfl (fun KK hK => ?_)
          go_simp
          refine hK.out _ _ ?s16k3 (fun hHeld => ?_)
          case s16k3 => exact hs7
          clear hK KK
          (try simp only [Act.put, List.setIfInBounds_toArray, List.set_cons_zero, List.set_cons_succ])
          refine wpAnyH_done (by kernel_rfl) ?_ _
          refine NoPanic.normal ?_
          clear hHeld hs6 hs7 cy fy H5 HSK
          go_wp2_with fail
          go_roundg (n - (j + 1))
          case measure => omega
          case rel => exact ⟨j + 1, by omega, rfl, by go_num, HN⟩
        · subst h
          obtain ⟨r, hr⟩ : ∃ r, opG st1 (orT V B [x, y] (0, st1)) = r := ⟨_, rfl⟩
          have HR1 : Hid (bld1 V B R st1 ⟨4, (av : Int), (bv : Int)⟩ = r) := by
            show bld1 V B R st1 ⟨4, (av : Int), (bv : Int)⟩ = r
            have hr2 : opG st1 (orT V B [R av, R bv] (0, st1)) = r := by rw [hx, hy]; exact hr
            exact hr2
          have HC1 : Hid (∀ W' : World, Keeps (fun _ => False) w1 W' → Calls Try.prog 59 #[.pointer (some ⟨db, 0, none⟩), .slice (some ⟨W'.heap.size, 0, none⟩) 2 2] (W'.alloc (.cells #[.int .i64 x, .int .i64 y] 3)) fun e W2 => e = .returned (.int .i64 r.1) ∧ Hid (BdTo db V B r.2 (c + 2) (W'.alloc (.cells #[.int .i64 x, .int .i64 y] 3)) F W2)) := fun W' hk => by
            have hk2 : Keeps (fun _ => False) w1 (W'.alloc (.cells #[.int .i64 x, .int .i64 y] 3)) := hk.alloc _
            have qq := bor_spec hV0 hV (HBD.out.quiet hk2) PI.out.fine.wf hkc2 (l := [x, y]) (by intro z hz; simp only [List.mem_cons, List.not_mem_nil, or_false] at hz; rcases hz with rfl | rfl; exact hIA; exact hIB) (n := 2) rfl (Nat.le_refl 2) (by omega) (numRow2 (MapKept.heap_alloc W' _).1) (fun b e hF => by simp only [Option.some.injEq, Addr.mk.injEq, and_true] at e; have := HBD.out.lt b hF; have := hk.size; omega) hcN hcM
            rw [hr] at qq
            exact qq
          clear hr HBD PI HO HCL HSTAY hx hy hIA hIB
          go_upto_region 15 with fail
          clear d0 d1 d2 cA cB
          refine wp_region_noPanic ?_
          refine wp_region_held_drew (S := (fun w' => w'.cell? ⟨bx, 1, none⟩ = some (.int .i64 (av : Int)) ∧ w'.cell? ⟨bx, 2, none⟩ = some (.int .i64 (bv : Int)) ∧ w'.cell? ⟨fb, av, none⟩ = some (.int .i64 x) ∧ w'.cell? ⟨fb, bv, none⟩ = some (.int .i64 y))) (by kernel_rfl) H5 (fun hHeld => ?_)
          refine wpAnyH_take_at (i := 0) (v := ?v0k4) rfl (by kernel_rfl) (by kernel_rfl) (by kernel_rfl) (fun _ _ _ h => h) (Or.inl ⟨by rfl, ?y0k4⟩) hHeld ?r0k4
          case y0k4 => (intro w hSw; (try dsimp only at hSw); go_simp; first | done | with_reducible rfl)
          (try simp only [Act.put, List.setIfInBounds_toArray, List.set_cons_zero, List.set_cons_succ])
          refine wpAnyH_take_at (i := 1) (v := ?v1k4) rfl (by kernel_rfl) (by kernel_rfl) (by kernel_rfl) (fun _ _ _ h => h) (Or.inl ⟨by rfl, ?y1k4⟩) hHeld ?r1k4
          case y1k4 => (intro w hSw; (try dsimp only at hSw); go_simp; first | done | with_reducible rfl)
          (try simp only [Act.put, List.setIfInBounds_toArray, List.set_cons_zero, List.set_cons_succ])
          refine wpAnyH_take_at (i := 2) (v := ?v2k4) rfl (by kernel_rfl) (by kernel_rfl) (by kernel_rfl) (fun _ _ _ h => h) (Or.inl ⟨by rfl, ?y2k4⟩) hHeld ?r2k4
          case y2k4 => (intro w hSw; (try dsimp only at hSw); go_simp; first | done | with_reducible rfl)
          (try simp only [Act.put, List.setIfInBounds_toArray, List.set_cons_zero, List.set_cons_succ])
          refine wpAnyH_take_at (i := 3) (v := ?v3k4) rfl (by kernel_rfl) (by kernel_rfl) (by kernel_rfl) (fun _ _ _ h => h) (Or.inl ⟨by rfl, ?y3k4⟩) hHeld ?r3k4
          case y3k4 => (intro w hSw; (try dsimp only at hSw); go_simp; first | done | with_reducible rfl)
          (try simp only [Act.put, List.setIfInBounds_toArray, List.set_cons_zero, List.set_cons_succ])
          refine wpAnyH_take_at (i := 4) (v := ?v4k4) rfl (by kernel_rfl) (by kernel_rfl) (by kernel_rfl) (fun _ _ _ h => h) (Or.inl ⟨by rfl, ?y4k4⟩) hHeld ?r4k4
          case y4k4 => (intro w hSw; (try dsimp only at hSw); go_simp; first | done | with_reducible rfl)
          (try simp only [Act.put, List.setIfInBounds_toArray, List.set_cons_zero, List.set_cons_succ])
          refine wpAnyH_take_at (i := 5) (v := ?v5k4) rfl (by kernel_rfl) (by kernel_rfl) (by kernel_rfl) (fun _ _ _ h => h) (Or.inl ⟨by rfl, ?y5k4⟩) hHeld ?r5k4
          case y5k4 => (intro w hSw; (try dsimp only at hSw); go_simp; first | done | with_reducible rfl)
          (try simp only [Act.put, List.setIfInBounds_toArray, List.set_cons_zero, List.set_cons_succ])
          refine wpAnyH_take_at (i := 6) (v := ?v6k4) rfl (by kernel_rfl) (by kernel_rfl) (by kernel_rfl) (fun _ _ _ h => h) (Or.inl ⟨by rfl, ?y6k4⟩) hHeld ?r6k4
          case y6k4 => (intro w hSw; (try dsimp only at hSw); go_simp; first | done | with_reducible rfl)
          (try simp only [Act.put, List.setIfInBounds_toArray, List.set_cons_zero, List.set_cons_succ])
          refine wpAnyH_take_at (i := 7) (v := ?v7k4) rfl (by kernel_rfl) (by kernel_rfl) (by kernel_rfl) (fun _ _ _ h => h) (Or.inl ⟨by rfl, ?y7k4⟩) hHeld ?r7k4
          case y7k4 => (intro w hSw; (try dsimp only at hSw); go_simp; first | done | with_reducible rfl)
          (try simp only [Act.put, List.setIfInBounds_toArray, List.set_cons_zero, List.set_cons_succ])
          refine wpAnyH_take_at (i := 8) (v := ?v8k4) rfl (by kernel_rfl) (by kernel_rfl) (by kernel_rfl) (fun _ _ _ h => h) (Or.inl ⟨by rfl, ?y8k4⟩) hHeld ?r8k4
          case y8k4 => (intro w hSw; (try dsimp only at hSw); go_simp; first | done | with_reducible rfl)
          (try simp only [Act.put, List.setIfInBounds_toArray, List.set_cons_zero, List.set_cons_succ])
          refine wpAnyH_take_at (i := 9) (v := ?v9k4) rfl (by kernel_rfl) (by kernel_rfl) (by kernel_rfl) (fun _ _ _ h => h) (Or.inl ⟨by rfl, ?y9k4⟩) hHeld ?r9k4
          case y9k4 => (intro w hSw; (try dsimp only at hSw); go_simp; first | done | with_reducible rfl)
          (try simp only [Act.put, List.setIfInBounds_toArray, List.set_cons_zero, List.set_cons_succ])
          refine wpAnyH_take_at (i := 10) (v := ?v10k4) rfl (by kernel_rfl) (by kernel_rfl) (by kernel_rfl) (fun _ _ _ h => h) (Or.inl ⟨by rfl, ?y10k4⟩) hHeld ?r10k4
          case y10k4 => (intro w hSw; (try dsimp only at hSw); go_simp; first | done | with_reducible rfl)
          (try simp only [Act.put, List.setIfInBounds_toArray, List.set_cons_zero, List.set_cons_succ])
          refine wpAnyH_take_at (i := 11) (v := ?v11k4) rfl (by kernel_rfl) (by kernel_rfl) (by kernel_rfl) (fun _ _ _ h => h) (Or.inl ⟨by rfl, ?y11k4⟩) hHeld ?r11k4
          case y11k4 => (intro w hSw; (try dsimp only at hSw); go_simp; first | done | with_reducible rfl)
          (try simp only [Act.put, List.setIfInBounds_toArray, List.set_cons_zero, List.set_cons_succ])
          refine wpAnyH_take_at (i := 12) (v := ?v12k4) rfl (by kernel_rfl) (by kernel_rfl) (by kernel_rfl) (fun _ _ _ h => h) (Or.inl ⟨by rfl, ?y12k4⟩) hHeld ?r12k4
          case y12k4 => (intro w hSw; (try dsimp only at hSw); go_simp; first | done | with_reducible rfl)
          (try simp only [Act.put, List.setIfInBounds_toArray, List.set_cons_zero, List.set_cons_succ])
          refine wpAnyH_one (i := 13) (by kernel_rfl) rfl (fun KK hK => ?_)
          go_simp
          refine hK.out _ _ ?s13k4 (fun hHeld => ?_)
          case s13k4 => exact HSK.out _ (fun _ => False) (((Keeps.refl _ _).drew).alloc _) (fun x => x) (fun x => x)
          clear hK KK
          (try simp only [Act.put, List.setIfInBounds_toArray, List.set_cons_zero, List.set_cons_succ])
          refine wpAnyH_one (i := 14) (by kernel_rfl) rfl (fun KK hK => ?_)
          go_simp
          refine (HC1.out _ ((Keeps.refl _ _).drew)).mono ?_
          rintro e w2 ⟨rfl, hb2⟩
          go_simp
          obtain ⟨F2, hb, hm0⟩ := hb2.out
          have hm : Mv w1 w2 F F2 := (Mv.quiet (Fp := F) ((Keeps.refl (fun _ => False) w1).drew.alloc _)).trans hm0
          obtain ⟨hst, ⟨yy, cy⟩, fy, ly⟩ := HSTEP.out r w2 (c + 2) F2 HR1.out hb hm (by omega) (by omega)
          have hs6 := HSK.out _ _ hm.keeps HBF.out.1 HNF.out
          have hs7 : (fun w' => w'.cell? ⟨bx, 1, none⟩ = some (.int .i64 (av : Int)) ∧ w'.cell? ⟨bx, 2, none⟩ = some (.int .i64 (bv : Int)) ∧ w'.cell? ⟨fb, av, none⟩ = some (.int .i64 x) ∧ w'.cell? ⟨fb, bv, none⟩ = some (.int .i64 y)) (w2.setCell ⟨fb, j, none⟩ (.int .i64 r.1)) := by
            have kk : ∀ g o, (g ≠ fb ∨ o ≠ j) → (w2.setCell ⟨fb, j, none⟩ (.int .i64 r.1)).cell? ⟨g, o, none⟩ = w2.cell? ⟨g, o, none⟩ := fun g o h => cell_other h
            exact ⟨(kk _ _ (.inl HBF.out.2)).trans hs6.1, (kk _ _ (.inl HBF.out.2)).trans hs6.2.1, (kk _ _ (.inr (by omega))).trans hs6.2.2.1, (kk _ _ (.inr (by omega))).trans hs6.2.2.2⟩
          have HN : Hid (∃ c F, BldS W db fb n V B l st calls Fp (j + 1) c F (w2.setCell ⟨fb, j, none⟩ (.int .i64 r.1))) := ⟨_, _, hst⟩
          clear hb hm0 hm hst HSTEP HC1 HR1 hb2
          refine hK.out _ _ ?s14k4 (fun hHeld => ?_)
          case s14k4 => exact hs6
          clear hK KK
          (try simp only [Act.put, List.setIfInBounds_toArray, List.set_cons_zero, List.set_cons_succ])
          refine wpAnyH_take_at (i := 15) (v := ?v15k4) rfl (by kernel_rfl) (by kernel_rfl) (by kernel_rfl) (fun _ _ _ h => h) (Or.inl ⟨by rfl, ?y15k4⟩) hHeld ?r15k4
          case y15k4 => (intro w hSw; (try dsimp only at hSw); go_simp; first | done | with_reducible rfl)
          (try simp only [Act.put, List.setIfInBounds_toArray, List.set_cons_zero, List.set_cons_succ])
          refine wpAnyH_one (i := 16) (by kernel_rfl) rfl (fun KK hK => ?_)
          go_simp
          refine hK.out _ _ ?s16k4 (fun hHeld => ?_)
          case s16k4 => exact hs7
          clear hK KK
          (try simp only [Act.put, List.setIfInBounds_toArray, List.set_cons_zero, List.set_cons_succ])
          refine wpAnyH_done (by kernel_rfl) ?_ _
          refine NoPanic.normal ?_
          clear hHeld hs6 hs7 cy fy H5 HSK
          go_wp2_with fail
          go_roundg (n - (j + 1))
          case measure => omega
          case rel => exact ⟨j + 1, by omega, rfl, by go_num, HN⟩
        · subst h
          obtain ⟨r, hr⟩ : ∃ r, opG st1 (xorT V B st1 x y) = r := ⟨_, rfl⟩
          have HR1 : Hid (bld1 V B R st1 ⟨5, (av : Int), (bv : Int)⟩ = r) := by
            show bld1 V B R st1 ⟨5, (av : Int), (bv : Int)⟩ = r
            have hr2 : opG st1 (xorT V B st1 (R av) (R bv)) = r := by rw [hx, hy]; exact hr
            exact hr2
          have HC1 : Hid (∀ W' : World, Keeps (fun _ => False) w1 W' → Calls Try.prog 60 #[.pointer (some ⟨db, 0, none⟩), .int .i64 x, .int .i64 y] W' fun e W2 => e = .returned (.int .i64 r.1) ∧ Hid (BdTo db V B r.2 (c + 1) W' F W2)) := fun W' hk => by
            have qq := bxor_spec hV0 hV (HBD.out.quiet hk) PI.out.fine.wf hkc2 hIA hIB hcN hcM
            rw [hr] at qq
            exact qq
          clear hr HBD PI HO HCL HSTAY hx hy hIA hIB
          go_upto_region 17 with fail
          clear d0 d1 d2 cA cB
          refine wp_region_noPanic ?_
          refine wp_region_held_drew (S := (fun w' => w'.cell? ⟨bx, 1, none⟩ = some (.int .i64 (av : Int)) ∧ w'.cell? ⟨bx, 2, none⟩ = some (.int .i64 (bv : Int)) ∧ w'.cell? ⟨fb, av, none⟩ = some (.int .i64 x) ∧ w'.cell? ⟨fb, bv, none⟩ = some (.int .i64 y))) (by kernel_rfl) H5 (fun hHeld => ?_)
          refine wpAnyH_take_at (i := 0) (v := ?v0k5) rfl (by kernel_rfl) (by kernel_rfl) (by kernel_rfl) (fun _ _ _ h => h) (Or.inl ⟨by rfl, ?y0k5⟩) hHeld ?r0k5
          case y0k5 => (intro w hSw; (try dsimp only at hSw); go_simp; first | done | with_reducible rfl)
          (try simp only [Act.put, List.setIfInBounds_toArray, List.set_cons_zero, List.set_cons_succ])
          refine wpAnyH_take_at (i := 1) (v := ?v1k5) rfl (by kernel_rfl) (by kernel_rfl) (by kernel_rfl) (fun _ _ _ h => h) (Or.inl ⟨by rfl, ?y1k5⟩) hHeld ?r1k5
          case y1k5 => (intro w hSw; (try dsimp only at hSw); go_simp; first | done | with_reducible rfl)
          (try simp only [Act.put, List.setIfInBounds_toArray, List.set_cons_zero, List.set_cons_succ])
          refine wpAnyH_take_at (i := 2) (v := ?v2k5) rfl (by kernel_rfl) (by kernel_rfl) (by kernel_rfl) (fun _ _ _ h => h) (Or.inl ⟨by rfl, ?y2k5⟩) hHeld ?r2k5
          case y2k5 => (intro w hSw; (try dsimp only at hSw); go_simp; first | done | with_reducible rfl)
          (try simp only [Act.put, List.setIfInBounds_toArray, List.set_cons_zero, List.set_cons_succ])
          refine wpAnyH_take_at (i := 3) (v := ?v3k5) rfl (by kernel_rfl) (by kernel_rfl) (by kernel_rfl) (fun _ _ _ h => h) (Or.inl ⟨by rfl, ?y3k5⟩) hHeld ?r3k5
          case y3k5 => (intro w hSw; (try dsimp only at hSw); go_simp; first | done | with_reducible rfl)
          (try simp only [Act.put, List.setIfInBounds_toArray, List.set_cons_zero, List.set_cons_succ])
          refine wpAnyH_take_at (i := 4) (v := ?v4k5) rfl (by kernel_rfl) (by kernel_rfl) (by kernel_rfl) (fun _ _ _ h => h) (Or.inl ⟨by rfl, ?y4k5⟩) hHeld ?r4k5
          case y4k5 => (intro w hSw; (try dsimp only at hSw); go_simp; first | done | with_reducible rfl)
          (try simp only [Act.put, List.setIfInBounds_toArray, List.set_cons_zero, List.set_cons_succ])
          refine wpAnyH_take_at (i := 5) (v := ?v5k5) rfl (by kernel_rfl) (by kernel_rfl) (by kernel_rfl) (fun _ _ _ h => h) (Or.inl ⟨by rfl, ?y5k5⟩) hHeld ?r5k5
          case y5k5 => (intro w hSw; (try dsimp only at hSw); go_simp; first | done | with_reducible rfl)
          (try simp only [Act.put, List.setIfInBounds_toArray, List.set_cons_zero, List.set_cons_succ])
          refine wpAnyH_take_at (i := 6) (v := ?v6k5) rfl (by kernel_rfl) (by kernel_rfl) (by kernel_rfl) (fun _ _ _ h => h) (Or.inl ⟨by rfl, ?y6k5⟩) hHeld ?r6k5
          case y6k5 => (intro w hSw; (try dsimp only at hSw); go_simp; first | done | with_reducible rfl)
          (try simp only [Act.put, List.setIfInBounds_toArray, List.set_cons_zero, List.set_cons_succ])
          refine wpAnyH_take_at (i := 7) (v := ?v7k5) rfl (by kernel_rfl) (by kernel_rfl) (by kernel_rfl) (fun _ _ _ h => h) (Or.inl ⟨by rfl, ?y7k5⟩) hHeld ?r7k5
          case y7k5 => (intro w hSw; (try dsimp only at hSw); go_simp; first | done | with_reducible rfl)
          (try simp only [Act.put, List.setIfInBounds_toArray, List.set_cons_zero, List.set_cons_succ])
          refine wpAnyH_take_at (i := 8) (v := ?v8k5) rfl (by kernel_rfl) (by kernel_rfl) (by kernel_rfl) (fun _ _ _ h => h) (Or.inl ⟨by rfl, ?y8k5⟩) hHeld ?r8k5
          case y8k5 => (intro w hSw; (try dsimp only at hSw); go_simp; first | done | with_reducible rfl)
          (try simp only [Act.put, List.setIfInBounds_toArray, List.set_cons_zero, List.set_cons_succ])
          refine wpAnyH_take_at (i := 9) (v := ?v9k5) rfl (by kernel_rfl) (by kernel_rfl) (by kernel_rfl) (fun _ _ _ h => h) (Or.inl ⟨by rfl, ?y9k5⟩) hHeld ?r9k5
          case y9k5 => (intro w hSw; (try dsimp only at hSw); go_simp; first | done | with_reducible rfl)
          (try simp only [Act.put, List.setIfInBounds_toArray, List.set_cons_zero, List.set_cons_succ])
          refine wpAnyH_take_at (i := 10) (v := ?v10k5) rfl (by kernel_rfl) (by kernel_rfl) (by kernel_rfl) (fun _ _ _ h => h) (Or.inl ⟨by rfl, ?y10k5⟩) hHeld ?r10k5
          case y10k5 => (intro w hSw; (try dsimp only at hSw); go_simp; first | done | with_reducible rfl)
          (try simp only [Act.put, List.setIfInBounds_toArray, List.set_cons_zero, List.set_cons_succ])
          refine wpAnyH_take_at (i := 11) (v := ?v11k5) rfl (by kernel_rfl) (by kernel_rfl) (by kernel_rfl) (fun _ _ _ h => h) (Or.inl ⟨by rfl, ?y11k5⟩) hHeld ?r11k5
          case y11k5 => (intro w hSw; (try dsimp only at hSw); go_simp; first | done | with_reducible rfl)
          (try simp only [Act.put, List.setIfInBounds_toArray, List.set_cons_zero, List.set_cons_succ])
          refine wpAnyH_take_at (i := 12) (v := ?v12k5) rfl (by kernel_rfl) (by kernel_rfl) (by kernel_rfl) (fun _ _ _ h => h) (Or.inl ⟨by rfl, ?y12k5⟩) hHeld ?r12k5
          case y12k5 => (intro w hSw; (try dsimp only at hSw); go_simp; first | done | with_reducible rfl)
          (try simp only [Act.put, List.setIfInBounds_toArray, List.set_cons_zero, List.set_cons_succ])
          refine wpAnyH_one (i := 13) (by kernel_rfl) rfl (fun KK hK => ?_)
          go_simp
          refine (HC1.out _ ((Keeps.refl _ _).drew)).mono ?_
          rintro e w2 ⟨rfl, hb2⟩
          go_simp
          obtain ⟨F2, hb, hm0⟩ := hb2.out
          have hm : Mv w1 w2 F F2 := (Mv.quiet (Fp := F) ((Keeps.refl (fun _ => False) w1).drew)).trans hm0
          obtain ⟨hst, ⟨yy, cy⟩, fy, ly⟩ := HSTEP.out r w2 (c + 1) F2 HR1.out hb hm (by omega) (by omega)
          have hs6 := HSK.out _ _ hm.keeps HBF.out.1 HNF.out
          have hs7 : (fun w' => w'.cell? ⟨bx, 1, none⟩ = some (.int .i64 (av : Int)) ∧ w'.cell? ⟨bx, 2, none⟩ = some (.int .i64 (bv : Int)) ∧ w'.cell? ⟨fb, av, none⟩ = some (.int .i64 x) ∧ w'.cell? ⟨fb, bv, none⟩ = some (.int .i64 y)) (w2.setCell ⟨fb, j, none⟩ (.int .i64 r.1)) := by
            have kk : ∀ g o, (g ≠ fb ∨ o ≠ j) → (w2.setCell ⟨fb, j, none⟩ (.int .i64 r.1)).cell? ⟨g, o, none⟩ = w2.cell? ⟨g, o, none⟩ := fun g o h => cell_other h
            exact ⟨(kk _ _ (.inl HBF.out.2)).trans hs6.1, (kk _ _ (.inl HBF.out.2)).trans hs6.2.1, (kk _ _ (.inr (by omega))).trans hs6.2.2.1, (kk _ _ (.inr (by omega))).trans hs6.2.2.2⟩
          have HN : Hid (∃ c F, BldS W db fb n V B l st calls Fp (j + 1) c F (w2.setCell ⟨fb, j, none⟩ (.int .i64 r.1))) := ⟨_, _, hst⟩
          clear hb hm0 hm hst HSTEP HC1 HR1 hb2
          refine hK.out _ _ ?s13k5 (fun hHeld => ?_)
          case s13k5 => exact hs6
          clear hK KK
          (try simp only [Act.put, List.setIfInBounds_toArray, List.set_cons_zero, List.set_cons_succ])
          refine wpAnyH_take_at (i := 14) (v := ?v14k5) rfl (by kernel_rfl) (by kernel_rfl) (by kernel_rfl) (fun _ _ _ h => h) (Or.inl ⟨by rfl, ?y14k5⟩) hHeld ?r14k5
          case y14k5 => (intro w hSw; (try dsimp only at hSw); go_simp; first | done | with_reducible rfl)
          (try simp only [Act.put, List.setIfInBounds_toArray, List.set_cons_zero, List.set_cons_succ])
          refine wpAnyH_one (i := 15) (by kernel_rfl) rfl (fun KK hK => ?_)
          go_simp
          refine hK.out _ _ ?s15k5 (fun hHeld => ?_)
          case s15k5 => exact hs7
          clear hK KK
          (try simp only [Act.put, List.setIfInBounds_toArray, List.set_cons_zero, List.set_cons_succ])
          refine wpAnyH_done (by kernel_rfl) ?_ _
          refine NoPanic.normal ?_
          clear hHeld hs6 hs7 cy fy H5 HSK
          go_wp2_with fail
          go_roundg (n - (j + 1))
          case measure => omega
          case rel => exact ⟨j + 1, by omega, rfl, by go_num, HN⟩
      · (try simp only [] at ha hb h67)
        subst ha hb
        rcases h67 with h | h
        · subst h
          obtain ⟨hst, ⟨y, cy⟩, fy, ly⟩ := HSTEP.out (1, st1) w1 c F rfl HBD.out (Mv.refl _ _) (by omega) (by omega)
          have HN : Hid (∃ c F, BldS W db fb n V B l st calls Fp (j + 1) c F (w1.setCell ⟨fb, j, none⟩ (.int .i64 1))) := ⟨_, _, hst⟩
          clear HSTEP HSTAY HCL HO PI HBD hst hcj
          go_wp2_with fail
          go_roundg (n - (j + 1))
          case measure => omega
          case rel => exact ⟨j + 1, by omega, rfl, by go_num, HN⟩
        · subst h
          have HN : Hid (∃ c F, BldS W db fb n V B l st calls Fp (j + 1) c F w1) := ⟨_, _, HSTAY.out rfl⟩
          clear HSTEP HSTAY HCL HO PI HBD hcj
          go_wp2_with fail
          go_roundg (n - (j + 1))
          case measure => omega
          case rel => exact ⟨j + 1, by omega, rfl, by go_num, HN⟩
    · obtain rfl : j = n := by omega
      have hjI : ¬ (j : Int) < (j : Int) := by omega
      have hj1 : ((j : Int) - 1) = ((j - 1 : Nat) : Int) := by omega
      have cc := hI.cell (show j - 1 < j by omega)
      have hw1 : IntKind.i64.wrap ((j : Int) - 1) = ((j - 1 : Nat) : Int) := (IntWalk.i64_in _ (by omega)).trans hj1
      have hlt3 : j - 1 < j := by omega
      have hm1 : ((j - 1 : Nat) : Int) < (j : Int) := by omega
      have HSP : Hid (Calls Try.prog 71 #[.pointer (some ⟨db, 0, none⟩)] wr fun e W' => e = .returned (.bool false) ∧ wr = W') := by
        have q := bspent_spec hI.bd
        rw [HNS.out] at q
        exact q
      have HFIN := Lib.hid (HEND.out (.returned (.tuple #[.int .i64 ((bldTo V B l st j).1 (j - 1)), .bool true])) wr rfl ⟨c, F, hI.bd, hI.mv, hI.c0, hI.c1⟩)
      obtain ⟨x, hx⟩ : ∃ x, (bldTo V B l st j).1 (j - 1) = x := ⟨_, rfl⟩
      rw [hx] at cc HFIN
      obtain ⟨m, hm⟩ : ∃ m, j - 1 = m := ⟨_, rfl⟩
      rw [hm] at cc hw1 hlt3 hm1
      have hlb := lt_of_cell cc
      clear hj1 hm hx hI HEND HNS HINV
      go_wp2_with fail
      refine HSP.out.mono ?_
      rintro e w' ⟨rfl, rfl⟩
      go_wp2_with fail
      go_ret2
      exact HFIN.out
end Go.Proofs.Ytipcgjigkipcpaa
