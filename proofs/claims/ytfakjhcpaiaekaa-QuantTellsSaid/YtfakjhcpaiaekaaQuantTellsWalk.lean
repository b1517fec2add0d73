/-
  The walk of the law QuantTells.
-/
import Derived.Test.YtfakjhcpaiaekaaMV
import Derived.Test.YtfakjhcpaiaekaaQuantLives
import Derived.Test.YtfakjhcpaiaekaaItePlayRun
import Derived.Test.YtfakjhcpaiaekaaItePlayOps
import Derived.Test.YtfakjhcpaiaekaaOrdInts
set_option linter.unusedVariables false
set_option linter.unusedSimpArgs false
set_option linter.unnecessarySimpa false
namespace Go.Proofs.Ytfakjhcpaiaekaa
open Go.ChangeShapes Go.WideShapes Go.ChangeAt Go.RowKit Go.Deep NodePlain
set_option maxRecDepth 100000 in
set_option maxHeartbeats 6400000 in
theorem quantTells_core (w : World) (X : Nat) (hX : X < 18446744073709551616) (ao : Option Addr) (n cap : Nat) (os : List OpR) (hos : os.length = n) (hO : OpRow w ao os) (hcap : n ≤ cap) (v : Int) (ao2 : Option Addr) (n2 cap2 nl : Nat) (hnl : min n2 8 = nl) (hcap2 : n2 ≤ cap2) (l : List Int) (hl : l.length = nl) (hlr : ReadsI w (.slice ao2 nl cap2) l) :
    Calls Try.prog 6 #[.slice ao n cap, .int .u64 X, .agg #[.int .i64 v, .slice ao2 n2 cap2]] w fun e w' => e = .returned (.bool true) ∧ Below w.heap.size w w' := by
  obtain ⟨k, hk⟩ : ∃ k, X % 7 = k := ⟨_, rfl⟩
  have hk6 : k ≤ 6 := by omega
  obtain ⟨m, hm⟩ : ∃ m, 2 ^ k = m := ⟨_, rfl⟩
  have hal := (MapKept.heap_alloc w (.cells #[.int .i64 v, .slice ao2 n2 cap2] 58)).1
  have hk0 : Keeps (fun _ => False) w (w.alloc (.cells #[.int .i64 v, .slice ao2 n2 cap2] 58)) := (Keeps.refl _ _).alloc _
  have hO0 := hO.keeps hk0 (fun _ _ _ x => x)
  have HK0 := Lib.hid hk0
  have hlt0 := lt_of_heap hal
  obtain ⟨w0, hw0⟩ : ∃ w0, w.alloc (.cells #[.int .i64 v, .slice ao2 n2 cap2] 58) = w0 := ⟨_, rfl⟩
  rw [hw0] at hal hO0 HK0 hlt0
  have d0 := cell_of_heap hal 0
  have d1 := cell_of_heap hal 1
  simp only [List.getElem?_toArray, List.getElem?_cons_zero, List.getElem?_cons_succ] at d0 d1
  have HAL := Lib.hid hal
  have HLR0 : Hid (ReadsI w0 (.slice ao2 nl cap2) l) := hlr.keeps HK0.out
  have HX := Lib.hid (And.intro hX hO0)
  clear hX hk0 hal hO hlr
  go_enter Try.func6, Try.ntmps6
  go_upto_region 1 with fail
  obtain ⟨bx, hbx⟩ : ∃ bx, w.heap.size = bx := ⟨_, rfl⟩
  rw [hbx] at d0 d1 hlt0 HAL ⊢
  go_quiet (fail)
  have HK1 : Hid (Keeps (fun _ => False) w (w0.drewN nq)) := HK0.out.drewN nq
  have HO0 : Hid (OpRow (w0.drewN nq) ao os) := HX.out.2.keeps ((Keeps.refl (fun _ => False) w0).drewN nq) (fun _ _ _ x => x)
  have HLR : Hid (ReadsI (w0.drewN nq) (.slice ao2 nl cap2) l) := HLR0.out.keeps ((Keeps.refl (fun _ => False) w0).drewN nq)
  generalize w0.drewN nq = w0 at *
  have hX := HX.out.1
  clear HK0 HAL d0 d1 hlt0 hw0 HX hbx HLR0
  have HK0 := HK1
  clear HK1
  have hO0 := HO0.out
  have HM : Hid (Calls Try.prog 7 #[.int .u64 X] w0 fun e W' => e = .returned (.int .i64 (k : Int)) ∧ w0 = W') := by
    have e := many_spec w0 X hX
    rw [hk] at e
    exact e
  have HN1 : Hid (Calls Try.prog 8 #[.int .i64 (k : Int), .int .i64 1048576] w0 fun e W' => ∃ db Fp, e = .returned (.pointer (some ⟨db, 0, none⟩)) ∧ Hid (Bd W' db k 1048576 st0 0 Fp ∧ Keeps (fun _ => False) w0 W' ∧ ∀ x, Fp x → w0.heap.size ≤ x)) := bnew_spec w0 k 1048576 k 1048576 (by omega) (by omega) rfl ⟨by omega, rfl⟩
  have HP : Hid (∀ (W : World) (db : Nat) (B : Int) (Fp : Nat → Prop), Bd W db k B st0 0 Fp → OpRow W ao os → (0 < os.length → ∀ b off, ao = some ⟨b, off, none⟩ → ¬ Fp b) → Calls Try.prog 9 #[.pointer (some ⟨db, 0, none⟩), .int .i64 (k : Int), .slice ao n cap] W (PlayPost k B k m os db Fp W (playM k B k os))) := fun W db B Fp h ho hf => play_spec k hk6 rfl _ hm h ho hos hcap hf
  have HO := Lib.hid hO0
  have HB : Hid (0 < os.length → ∀ b off, ao = some ⟨b, off, none⟩ → b < w0.heap.size) := fun h0 b off e => by
    obtain ⟨b', off', e', hlt, _⟩ := hO0 h0
    rw [e'] at e
    simp only [Option.some.injEq, Addr.mk.injEq, and_true] at e
    omega
  have HF := Lib.hid (tells_facts k hk6 m hm os)
  have HL := Lib.hid lives17_any
  have HMS : Hid (∀ {w1 w2 : World} {db : Nat} {Fd Fd' : Nat → Prop} {lv rv : Value} {bs : List Nat} {s : PlS}, playM k 1048576 k os = s → (Bd w1 db k 1048576 st0 0 Fd ∧ Keeps (fun _ => False) w0 w1 ∧ ∀ x, Fd x → w0.heap.size ≤ x) → (Pl w1.heap.size w2 db k 1048576 m s.st s.calls Fd' s.l lv s.Rs rv bs ∧ Mv w1 w2 Fd Fd') → 0 < s.l.length → s.st.n ≤ 23040 → s.calls ≤ 90 →
      ∃ lb lc rb rc, lv = .slice (some ⟨lb, 0, none⟩) s.l.length lc ∧ s.l.length ≤ lc ∧ rv = .slice (some ⟨rb, 0, none⟩) s.l.length rc ∧ s.l.length ≤ rc ∧ bs.length = s.l.length ∧ ∃ F, QtS w0 w2 k s 0 db lb rb m bs s.st 90 s.calls F) := fun hs hd pd h0 hn hc => qt_of hk6 hs hd pd h0 hn hc
  have hm64 : m ≤ 64 := by rw [← hm]; exact Nat.le_trans (Nat.pow_le_pow_right (by omega) hk6) (by decide)
  have HMm := Lib.hid hm
  have hl8 : l.length ≤ 8 := by omega
  have hmn : min (n2 : Int) 8 = (nl : Int) := by omega
  have hn0 : (0 : Int) ≤ (nl : Int) := by omega
  have hnc : (nl : Int) ≤ (cap2 : Int) := by omega
  have hnc2 : nl ≤ cap2 := by omega
  clear hX hk hm hO0 HO0 hnl hl
  go_wp2_with fail
  refine HM.out.mono ?_
  rintro e w' ⟨rfl, rfl⟩
  clear HM
  go_wp2_with fail
  refine HN1.out.mono ?_
  rintro e w1 ⟨db, Fd, rfl, hd⟩
  clear HN1
  have HO1 : Hid (OpRow w1 ao os) := HO.out.keeps hd.out.2.1 (fun _ _ _ x => x)
  have HF1 : Hid (0 < os.length → ∀ b off, ao = some ⟨b, off, none⟩ → ¬ Fd b) := fun h0 b off e hf => by
    have h1 := HB.out h0 b off e
    have := hd.out.2.2 b hf
    omega
  clear HO HB
  go_wp2_with fail
  refine (HP.out w1 db 1048576 Fd hd.out.1 HO1.out HF1.out).mono ?_
  rintro e w2 ⟨lv, rv, bs, Fd', rfl, hpd⟩
  clear HO1 HF1 HP
  obtain ⟨s, hs⟩ : ∃ s, playM k 1048576 k os = s := ⟨_, rfl⟩
  rw [hs] at HF hpd ⊢
  generalize (os.take 30).length = j at HF
  have hj := HF.out.le
  have f1 := HF.out.len
  obtain ⟨lb, lc, rb, rc, rfl, hlc, rfl, hrc, hbl, F0, hS⟩ := HMS.out hs hd.out hpd.out (by omega) HF.out.n HF.out.calls
  have HGS : Hid (NodePlain.Good (k : Int) s.st.L s.st.n) := hS.ms.fine.wf.ok.good
  have HS : Hid (∃ st kc calls F, QtS w0 w2 k s (0 * 69) db lb rb m bs st kc calls F) := ⟨_, _, _, _, hS⟩
  clear hd hpd hS HMS hs
  rw [f1] at hlc hrc hbl ⊢
  clear f1
  have HEND : Hid (∀ W', Keeps (fun x => w0.heap.size ≤ x) w0 W' → Below w.heap.size w W' ∧ w.heap.size ≤ W'.heap.size) := fun W' hk => by
    have k2 := (HK0.out.mono (fun _ _ x => x.elim) : Keeps (fun x => w.heap.size ≤ x) w w0).trans_new hk (fun i hi hx => by have h2 : w0.heap.size ≤ i := hx; have := HK0.out.size; show w.heap.size ≤ i; omega)
    exact ⟨k2.below (Nat.le_refl _) (fun x hx hs => by omega), k2.size⟩
  clear HK0
  go_wp2_with fail
  go_loopg [45] (j + 2) (fun g tt wx => ∃ i : Nat, i ≤ j + 2 ∧ g = j + 2 - i ∧ tt = .int .i64 i ∧ Hid (∃ st kc calls F, QtS w0 wx k s (i * 69) db lb rb m bs st kc calls F))
  case atStart => exact ⟨0, Nat.zero_le _, rfl, rfl, HS⟩
  case round =>
    clear HS
    obtain ⟨i, hi, rfl, rfl, HI⟩ := hrel
    obtain ⟨st, kc, calls, F, hI⟩ := HI.out
    clear HI
    by_cases hlt : i < j + 2
    · have hiI : (i : Int) < (j : Int) + 2 := by omega
      have hwi : IntKind.i64.wrap ((i : Int) + 1) = (i : Int) + 1 := IntWalk.i64_in _ (by omega)
      have hlc' : i < lc := by omega
      have hrc' : i < rc := by omega
      have hlj : i < j + 2 := hlt
      obtain ⟨q, hq⟩ : ∃ q, j + 1 - i = q := ⟨_, rfl⟩
      have hqj : q < j + 2 := by omega
      have hqlc : q < lc := by omega
      have hqrc : q < rc := by omega
      have hqI : (q : Int) < (j : Int) + 2 := by omega
      have hq0 : (0 : Int) ≤ (q : Int) := by omega
      have hwq1 : IntKind.i64.wrap ((j : Int) + 2 - 1) = (j : Int) + 1 := by rw [IntWalk.i64_in _ (by omega)]; omega
      have hwq2 : IntKind.i64.wrap ((j : Int) + 1 - (i : Int)) = (q : Int) := by rw [IntWalk.i64_in _ (by omega)]; omega
      clear hq
      obtain ⟨f, hx⟩ : ∃ x, s.l[i]? = some x := ⟨_, List.getElem?_eq_getElem (by have := HF.out.len; omega)⟩
      obtain ⟨R, hR⟩ : ∃ R, s.Rs[i]? = some R := ⟨_, List.getElem?_eq_getElem (by have := HF.out.lenR; omega)⟩
      obtain ⟨b, hb⟩ : ∃ b, bs[i]? = some b := ⟨_, List.getElem?_eq_getElem (by omega)⟩
      obtain ⟨f2, hx2⟩ : ∃ x, s.l[q]? = some x := ⟨_, List.getElem?_eq_getElem (by have := HF.out.len; omega)⟩
      obtain ⟨R2, hR2⟩ : ∃ R, s.Rs[q]? = some R := ⟨_, List.getElem?_eq_getElem (by have := HF.out.lenR; omega)⟩
      obtain ⟨b2, hb2⟩ : ∃ b, bs[q]? = some b := ⟨_, List.getElem?_eq_getElem (by omega)⟩
      have hxs := HF.out.is i f hx
      have hxs2 := HF.out.is q f2 hx2
      have hc1 := hI.ms.l i f hx
      obtain ⟨E, hE⟩ : ∃ E : (Nat → Bool) → Bool, (fun β => ev s.st.L β f) = E := ⟨_, rfl⟩
      obtain ⟨G, hG⟩ : ∃ E : (Nat → Bool) → Bool, (fun β => ev s.st.L β f2) = E := ⟨_, rfl⟩
      have HN0 : Hid (Num st f E) := (⟨hxs, fun β => by rw [← hE]⟩ : Num s.st f E).ext hI.ms.ext HGS.out
      have HG0 : Hid (Num st f2 G) := (⟨hxs2, fun β => by rw [← hG]⟩ : Num s.st f2 G).ext hI.ms.ext HGS.out
      have HDE : Hid (Deps k E) := by rw [← hE]; exact deps_ev HGS.out hxs
      have HRO : Hid (RowOf k E R) := fun b _ => by rw [← hE]; exact HF.out.sem i f R hx hR b
      have HRG : Hid (RowOf k G R2) := fun b _ => by rw [← hG]; exact HF.out.sem q f2 R2 hx2 hR2 b
      have HI := Lib.hid hI
      have HBB := Lib.hid hb
      have HRB : Hid (∀ {W : World} {F' : Nat → Prop}, RwT W F' m rb bs s.Rs → RxF W F' b m R) := fun h => h.row i b R hb hR
      have HRB2 : Hid (∀ {W : World} {F' : Nat → Prop}, RwT W F' m rb bs s.Rs → RxF W F' b2 m R2) := fun h => h.row q b2 R2 hb2 hR2
      have HC2 : Hid (∀ {W : World} {c : Nat} {st' : St} {kc' : Nat} {calls' : Int} {F' : Nat → Prop}, QtS w0 W k s c db lb rb m bs st' kc' calls' F' → W.cell? ⟨lb, q, none⟩ = some (.int .i64 f2) ∧ W.cell? ⟨rb, q, none⟩ = some (.slice (some ⟨b2, 0, none⟩) m m)) := fun h => ⟨h.ms.l q f2 hx2, h.r.r q b2 hb2⟩
      have HRR : Hid (∀ (W1 : World) (v : Int) (so : Bool) (F' : Nat → Prop), RxF W1 F' b m R → (∀ x, F' x → x < W1.heap.size) → Calls Try.prog 31 #[.slice (some ⟨b, 0, none⟩) m m, .int .i64 (k : Int), .int .i64 v, .bool so] W1 fun e W' => ∃ b' cap', e = .returned (.slice (some ⟨b', 0, none⟩) m cap') ∧ Hid (m ≤ cap' ∧ Keeps (fun _ => False) W1 W' ∧ RxF W' F' b' m (rowP k v so R))) := fun W1 v so F' h1 hF => (rrow_spec h1.row (Nat.le_refl _) hk6 HMm.out v so).mono (by
        rintro e W' ⟨b', cap', rfl, h2⟩
        exact ⟨b', cap', rfl, h2.out.1, h2.out.2.2.1, h2.out.2.2.2, fun hf => by have := hF _ hf; have := h2.out.2.1; omega⟩)
      clear hx hR hb hx2 hR2 hb2 hxs hxs2 hE hG hI
      have hS0 : (fun w' => w'.cell? ⟨rb, i, none⟩ = some (.slice (some ⟨b, 0, none⟩) m m)) wr.drew := HI.out.r.r i b HBB.out
      have HI1 := Lib.hid (HI.out.quiet ((Keeps.refl (fun _ => False) wr).drew))
      have HLO := Lib.hid (HRR.out wr.drew v false F (HRB.out HI1.out.r) HI1.out.ms.bd.lt)
      clear HI
      go_upto_region 11 with fail
      refine wp_region_noPanic ?_
      refine wp_region_held_drew (S := (fun w' => w'.cell? ⟨rb, i, none⟩ = some (.slice (some ⟨b, 0, none⟩) m m))) (by kernel_rfl) hS0 (fun hHeld => ?_)
      refine wpAnyH_take_at (i := 0) (v := ?v0a) rfl (by kernel_rfl) (by kernel_rfl) (by kernel_rfl) (fun _ _ _ h => h) (Or.inl ⟨by rfl, ?y0a⟩) hHeld ?r0a
      case y0a => (intro w hSw; (try dsimp only at hSw); go_simp; first | done | with_reducible rfl)
      (try simp only [Act.put, List.setIfInBounds_toArray, List.set_cons_zero, List.set_cons_succ])
      refine wpAnyH_take_at (i := 1) (v := ?v1a) rfl (by kernel_rfl) (by kernel_rfl) (by kernel_rfl) (fun _ _ _ h => h) (Or.inl ⟨by rfl, ?y1a⟩) hHeld ?r1a
      case y1a => (intro w hSw; (try dsimp only at hSw); go_simp; first | done | with_reducible rfl)
      (try simp only [Act.put, List.setIfInBounds_toArray, List.set_cons_zero, List.set_cons_succ])
      refine wpAnyH_take_at (i := 2) (v := ?v2a) rfl (by kernel_rfl) (by kernel_rfl) (by kernel_rfl) (fun _ _ _ h => h) (Or.inl ⟨by rfl, ?y2a⟩) hHeld ?r2a
      case y2a => (intro w hSw; (try dsimp only at hSw); go_simp; first | done | with_reducible rfl)
      (try simp only [Act.put, List.setIfInBounds_toArray, List.set_cons_zero, List.set_cons_succ])
      refine wpAnyH_take_at (i := 3) (v := ?v3a) rfl (by kernel_rfl) (by kernel_rfl) (by kernel_rfl) (fun _ _ _ h => h) (Or.inl ⟨by rfl, ?y3a⟩) hHeld ?r3a
      case y3a => (intro w hSw; (try dsimp only at hSw); go_simp; first | done | with_reducible rfl)
      (try simp only [Act.put, List.setIfInBounds_toArray, List.set_cons_zero, List.set_cons_succ])
      refine wpAnyH_take_at (i := 4) (v := ?v4a) rfl (by kernel_rfl) (by kernel_rfl) (by kernel_rfl) (fun _ _ _ h => h) (Or.inl ⟨by rfl, ?y4a⟩) hHeld ?r4a
      case y4a => (intro w hSw; (try dsimp only at hSw); go_simp; first | done | with_reducible rfl)
      (try simp only [Act.put, List.setIfInBounds_toArray, List.set_cons_zero, List.set_cons_succ])
      refine wpAnyH_take_at (i := 5) (v := ?v5a) rfl (by kernel_rfl) (by kernel_rfl) (by kernel_rfl) (fun _ _ _ h => h) (Or.inl ⟨by rfl, ?y5a⟩) hHeld ?r5a
      case y5a => (intro w hSw; (try dsimp only at hSw); go_simp; first | done | with_reducible rfl)
      (try simp only [Act.put, List.setIfInBounds_toArray, List.set_cons_zero, List.set_cons_succ])
      refine wpAnyH_take_at (i := 7) (v := ?v7a) rfl (by kernel_rfl) (by kernel_rfl) (by kernel_rfl) (fun _ _ _ h => h) (Or.inl ⟨by rfl, ?y7a⟩) hHeld ?r7a
      case y7a => (intro w hSw; (try dsimp only at hSw); go_simp; first | done | with_reducible rfl)
      (try simp only [Act.put, List.setIfInBounds_toArray, List.set_cons_zero, List.set_cons_succ])
      refine wpAnyH_take_at (i := 8) (v := ?v8a) rfl (by kernel_rfl) (by kernel_rfl) (by kernel_rfl) (fun _ _ _ h => h) (Or.inl ⟨by rfl, ?y8a⟩) hHeld ?r8a
      case y8a => (intro w hSw; (try dsimp only at hSw); go_simp; first | done | with_reducible rfl)
      (try simp only [Act.put, List.setIfInBounds_toArray, List.set_cons_zero, List.set_cons_succ])
      refine wpAnyH_take_at (i := 9) (v := ?v9a) rfl (by kernel_rfl) (by kernel_rfl) (by kernel_rfl) (fun _ _ _ h => h) (Or.inl ⟨by rfl, ?y9a⟩) hHeld ?r9a
      case y9a => (intro w hSw; (try dsimp only at hSw); go_simp; first | done | with_reducible rfl)
      (try simp only [Act.put, List.setIfInBounds_toArray, List.set_cons_zero, List.set_cons_succ])
      refine wpAnyH_take_at (i := 10) (v := ?v10a) rfl (by kernel_rfl) (by kernel_rfl) (by kernel_rfl) (fun _ _ _ h => h) (Or.inl ⟨by rfl, ?y10a⟩) hHeld ?r10a
      case y10a => (intro w hSw; (try dsimp only at hSw); go_simp; first | done | with_reducible rfl)
      (try simp only [Act.put, List.setIfInBounds_toArray, List.set_cons_zero, List.set_cons_succ])
      refine wpAnyH_take_at (i := 11) (v := ?v11a) rfl (by kernel_rfl) (by kernel_rfl) (by kernel_rfl) (fun _ _ _ h => h) (Or.inl ⟨by rfl, ?y11a⟩) hHeld ?r11a
      case y11a => (intro w hSw; (try dsimp only at hSw); go_simp; first | done | with_reducible rfl)
      (try simp only [Act.put, List.setIfInBounds_toArray, List.set_cons_zero, List.set_cons_succ])
      refine wpAnyH_take_at (i := 12) (v := ?v12a) rfl (by kernel_rfl) (by kernel_rfl) (by kernel_rfl) (fun _ _ _ h => h) (Or.inl ⟨by rfl, ?y12a⟩) hHeld ?r12a
      case y12a => (intro w hSw; (try dsimp only at hSw); go_simp; first | done | with_reducible rfl)
      (try simp only [Act.put, List.setIfInBounds_toArray, List.set_cons_zero, List.set_cons_succ])
      refine wpAnyH_one (i := 6) (by kernel_rfl) rfl (fun KK hK => ?_)
      go_simp
      refine HLO.out.mono ?_
      rintro e w4 ⟨blo, clo, rfl, h4⟩
      go_simp
      have hclo := h4.out.1
      have HI4 := Lib.hid (HI1.out.quiet h4.out.2.1)
      have HLO4 := Lib.hid h4.out.2.2
      have HHI := Lib.hid (HRR.out w4 v true F (HRB.out HI4.out.r) HI4.out.ms.bd.lt)
      clear HLO h4 HI1
      refine hK.out _ _ ?s6a (fun hHeld => ?_)
      case s6a => exact HI4.out.r.r i b HBB.out
      clear hK KK
      (try simp only [Act.put, List.setIfInBounds_toArray, List.set_cons_zero, List.set_cons_succ])
      refine wpAnyH_one (i := 13) (by kernel_rfl) rfl (fun KK hK => ?_)
      go_simp
      refine HHI.out.mono ?_
      rintro e w5 ⟨bhi, chi, rfl, h5⟩
      go_simp
      have hchi := h5.out.1
      have HI5 := Lib.hid (HI4.out.quiet h5.out.2.1)
      have HLO5 := Lib.hid (HLO4.out.quiet h5.out.2.1)
      have HHI5 := Lib.hid h5.out.2.2
      clear HHI HLO4 h5 HI4 HRR
      refine hK.out _ _ ?s13a (fun hHeld => ?_)
      case s13a => exact HI5.out.r.r i b HBB.out
      clear hK KK
      (try simp only [Act.put, List.setIfInBounds_toArray, List.set_cons_zero, List.set_cons_succ])
      refine wpAnyH_take_at (i := 14) (v := ?v14a) rfl (by kernel_rfl) (by kernel_rfl) (by kernel_rfl) (fun _ _ _ h => h) (Or.inl ⟨by rfl, ?y14a⟩) hHeld ?r14a
      case y14a => (intro w hSw; (try dsimp only at hSw); go_simp; first | done | with_reducible rfl)
      (try simp only [Act.put, List.setIfInBounds_toArray, List.set_cons_zero, List.set_cons_succ])
      refine wpAnyH_take_at (i := 15) (v := ?v15a) rfl (by kernel_rfl) (by kernel_rfl) (by kernel_rfl) (fun _ _ _ h => h) (Or.inl ⟨by rfl, ?y15a⟩) hHeld ?r15a
      case y15a => (intro w hSw; (try dsimp only at hSw); go_simp; first | done | with_reducible rfl)
      (try simp only [Act.put, List.setIfInBounds_toArray, List.set_cons_zero, List.set_cons_succ])
      refine wpAnyH_done (by kernel_rfl) ?_ _
      refine NoPanic.normal ?_
      clear hHeld hS0
      have hq1 := HC2.out HI5.out
      have hc21 := hq1.1
      have hc22 := hq1.2
      go_upto_region 12 with fail
      go_quiet (fail)
      have k6 : Keeps (fun _ => False) w5 (w5.drewN nq) := (Keeps.refl _ _).drewN nq
      have HI6 := Lib.hid (HI5.out.quiet k6)
      have HLO6 := Lib.hid (HLO5.out.quiet k6)
      have HHI6 := Lib.hid (HHI5.out.quiet k6)
      generalize w5.drewN nq = w6 at *
      clear k6 hc21 hc22 hq1 HI5 HLO5 HHI5 HC2 hc1
      have HCA := Lib.hid (HI6.out.restr hk6 (by omega) HN0.out v false)
      go_wp2_with fail
      refine HCA.out.mono ?_
      rintro e w7 ⟨z1, t7, kc7, ca7, F7, rfl, h7⟩
      have HI7 := Lib.hid h7.out.1
      have HLO7 := Lib.hid (HLO6.out.move h7.out.2.2.2)
      have HHI7 := Lib.hid (HHI6.out.move h7.out.2.2.2)
      have HN7 := Lib.hid (HN0.out.ext h7.out.2.1 HI6.out.ms.fine.wf.ok.good)
      have HG7 := Lib.hid (HG0.out.ext h7.out.2.1 HI6.out.ms.fine.wf.ok.good)
      have HZ7 := Lib.hid h7.out.2.2.1
      clear HCA h7 HI6 HN0 HG0 HLO6 HHI6
      have HIS := Lib.hid (HI7.out.isR hk6 HMm.out (by omega) HZ7.out (rowP_of HDE.out HRO.out v false) HLO7.out.row hclo)
      clear HZ7
      go_wp2_with fail
      refine HIS.out.mono ?_
      rintro e w8 ⟨rfl, h8⟩
      have HI8 := Lib.hid (HI7.out.quiet h8.out)
      have HLO8 := Lib.hid (HLO7.out.quiet h8.out)
      have HHI8 := Lib.hid (HHI7.out.quiet h8.out)
      clear HIS h8 HI7 HLO7 HHI7
      have HCA := Lib.hid (HI8.out.restr hk6 (by omega) HN7.out v true)
      go_wp2_with fail
      refine HCA.out.mono ?_
      rintro e w9 ⟨z2, t9, kc9, ca9, F9, rfl, h9⟩
      have HI9 := Lib.hid h9.out.1
      have HLO9 := Lib.hid (HLO8.out.move h9.out.2.2.2)
      have HHI9 := Lib.hid (HHI8.out.move h9.out.2.2.2)
      have HN9 := Lib.hid (HN7.out.ext h9.out.2.1 HI8.out.ms.fine.wf.ok.good)
      have HG9 := Lib.hid (HG7.out.ext h9.out.2.1 HI8.out.ms.fine.wf.ok.good)
      have HZ9 := Lib.hid h9.out.2.2.1
      clear HCA h9 HI8 HN7 HG7 HLO8 HHI8
      have HIS := Lib.hid (HI9.out.isR hk6 HMm.out (by omega) HZ9.out (rowP_of HDE.out HRO.out v true) HHI9.out.row hchi)
      clear HZ9
      go_wp2_with fail
      refine HIS.out.mono ?_
      rintro e w10 ⟨rfl, h10⟩
      have HI10 := Lib.hid (HI9.out.quiet h10.out)
      have HLO10 := Lib.hid (HLO9.out.quiet h10.out)
      have HHI10 := Lib.hid (HHI9.out.quiet h10.out)
      clear HIS h10 HI9 HLO9 HHI9
      have HCA := Lib.hid (HI10.out.put hk6 (by omega) HN9.out HG9.out v)
      go_wp2_with fail
      refine HCA.out.mono ?_
      rintro e w11 ⟨z3, t11, kc11, ca11, F11, rfl, h11⟩
      have HI11 := Lib.hid h11.out.1
      have HLO11 := Lib.hid (HLO10.out.move h11.out.2.2.2)
      have HHI11 := Lib.hid (HHI10.out.move h11.out.2.2.2)
      have HN11 := Lib.hid (HN9.out.ext h11.out.2.1 HI10.out.ms.fine.wf.ok.good)
      have HG11 := Lib.hid (HG9.out.ext h11.out.2.1 HI10.out.ms.fine.wf.ok.good)
      have HZ11 := Lib.hid h11.out.2.2.1
      clear HCA h11 HI10 HN9 HG9 HLO10 HHI10
      have HIR := Lib.hid (iteX_row w11 hm64 (HRB2.out HI11.out.r).row (Nat.le_refl _) HHI11.out.row hchi HLO11.out.row hclo)
      go_wp2_with fail
      refine HIR.out.mono ?_
      rintro e w12 ⟨b3, rfl, h12⟩
      have HB3 := Lib.hid h12.out.2.2.x
      have HI12 := Lib.hid (HI11.out.quiet h12.out.2.1)
      have HLO12 := Lib.hid (HLO11.out.quiet h12.out.2.1)
      have HHI12 := Lib.hid (HHI11.out.quiet h12.out.2.1)
      clear HIR h12 HI11 HLO11 HHI11
      have HIS := Lib.hid (HI12.out.isR hk6 HMm.out (by omega) HZ11.out (put_row HDE.out HRO.out HRG.out v) HB3.out (Nat.le_refl _))
      clear HZ11 HB3
      go_wp2_with fail
      refine HIS.out.mono ?_
      rintro e w13 ⟨rfl, h13⟩
      clear HLO12 HHI12
      have HI13 := Lib.hid (HI12.out.quiet h13.out)
      clear HIS h13 HI12
      have hS1 : (fun w' => w'.cell? ⟨rb, i, none⟩ = some (.slice (some ⟨b, 0, none⟩) m m)) w13.drew := HI13.out.r.r i b HBB.out
      have HIx := Lib.hid (HI13.out.quiet ((Keeps.refl (fun _ => False) w13).drew))
      have HCA : Hid (Calls Try.prog 21 #[.pointer (some ⟨db, 0, none⟩), .int .i64 f, .slice ao2 nl cap2] w13.drew (QtPost w0 w13.drew k s _ 32 db lb rb m bs _ _ (eachEv true E l))) := HIx.out.named true hk6 (by omega) HN11.out HLR.out hl8
      clear HI13
      go_upto_region 15 with fail
      refine wp_region_noPanic ?_
      refine wp_region_held_drew (S := (fun w' => w'.cell? ⟨rb, i, none⟩ = some (.slice (some ⟨b, 0, none⟩) m m))) (by kernel_rfl) hS1 (fun hHeld => ?_)
      refine wpAnyH_take_at (i := 0) (v := ?v0b) rfl (by kernel_rfl) (by kernel_rfl) (by kernel_rfl) (fun _ _ _ h => h) (Or.inl ⟨by rfl, ?y0b⟩) hHeld ?r0b
      case y0b => (intro w hSw; (try dsimp only at hSw); go_simp; first | done | with_reducible rfl)
      (try simp only [Act.put, List.setIfInBounds_toArray, List.set_cons_zero, List.set_cons_succ])
      refine wpAnyH_take_at (i := 1) (v := ?v1b) rfl (by kernel_rfl) (by kernel_rfl) (by kernel_rfl) (fun _ _ _ h => h) (Or.inl ⟨by rfl, ?y1b⟩) hHeld ?r1b
      case y1b => (intro w hSw; (try dsimp only at hSw); go_simp; first | done | with_reducible rfl)
      (try simp only [Act.put, List.setIfInBounds_toArray, List.set_cons_zero, List.set_cons_succ])
      refine wpAnyH_take_at (i := 2) (v := ?v2b) rfl (by kernel_rfl) (by kernel_rfl) (by kernel_rfl) (fun _ _ _ h => h) (Or.inl ⟨by rfl, ?y2b⟩) hHeld ?r2b
      case y2b => (intro w hSw; (try dsimp only at hSw); go_simp; first | done | with_reducible rfl)
      (try simp only [Act.put, List.setIfInBounds_toArray, List.set_cons_zero, List.set_cons_succ])
      refine wpAnyH_take_at (i := 3) (v := ?v3b) rfl (by kernel_rfl) (by kernel_rfl) (by kernel_rfl) (fun _ _ _ h => h) (Or.inl ⟨by rfl, ?y3b⟩) hHeld ?r3b
      case y3b => (intro w hSw; (try dsimp only at hSw); go_simp; first | done | with_reducible rfl)
      (try simp only [Act.put, List.setIfInBounds_toArray, List.set_cons_zero, List.set_cons_succ])
      refine wpAnyH_take_at (i := 5) (v := ?v5b) rfl (by kernel_rfl) (by kernel_rfl) (by kernel_rfl) (fun _ _ _ h => h) (Or.inl ⟨by rfl, ?y5b⟩) hHeld ?r5b
      case y5b => (intro w hSw; (try dsimp only at hSw); go_simp; first | done | with_reducible rfl)
      (try simp only [Act.put, List.setIfInBounds_toArray, List.set_cons_zero, List.set_cons_succ])
      refine wpAnyH_take_at (i := 6) (v := ?v6b) rfl (by kernel_rfl) (by kernel_rfl) (by kernel_rfl) (fun _ _ _ h => h) (Or.inl ⟨by rfl, ?y6b⟩) hHeld ?r6b
      case y6b => (intro w hSw; (try dsimp only at hSw); go_simp; first | done | with_reducible rfl)
      (try simp only [Act.put, List.setIfInBounds_toArray, List.set_cons_zero, List.set_cons_succ])
      refine wpAnyH_take_at (i := 7) (v := ?v7b) rfl (by kernel_rfl) (by kernel_rfl) (by kernel_rfl) (fun _ _ _ h => h) (Or.inl ⟨by rfl, ?y7b⟩) hHeld ?r7b
      case y7b => (intro w hSw; (try dsimp only at hSw); go_simp; first | done | with_reducible rfl)
      (try simp only [Act.put, List.setIfInBounds_toArray, List.set_cons_zero, List.set_cons_succ])
      refine wpAnyH_take_at (i := 8) (v := ?v8b) rfl (by kernel_rfl) (by kernel_rfl) (by kernel_rfl) (fun _ _ _ h => h) (Or.inl ⟨by rfl, ?y8b⟩) hHeld ?r8b
      case y8b => (intro w hSw; (try dsimp only at hSw); go_simp; first | done | with_reducible rfl)
      (try simp only [Act.put, List.setIfInBounds_toArray, List.set_cons_zero, List.set_cons_succ])
      refine wpAnyH_take_at (i := 9) (v := ?v9b) rfl (by kernel_rfl) (by kernel_rfl) (by kernel_rfl) (fun _ _ _ h => h) (Or.inl ⟨by rfl, ?y9b⟩) hHeld ?r9b
      case y9b => (intro w hSw; (try dsimp only at hSw); go_simp; first | done | with_reducible rfl)
      (try simp only [Act.put, List.setIfInBounds_toArray, List.set_cons_zero, List.set_cons_succ])
      refine wpAnyH_take_at (i := 10) (v := ?v10b) rfl (by kernel_rfl) (by kernel_rfl) (by kernel_rfl) (fun _ _ _ h => h) (Or.inl ⟨by rfl, ?y10b⟩) hHeld ?r10b
      case y10b => (intro w hSw; (try dsimp only at hSw); go_simp; first | done | with_reducible rfl)
      (try simp only [Act.put, List.setIfInBounds_toArray, List.set_cons_zero, List.set_cons_succ])
      refine wpAnyH_one (i := 4) (by kernel_rfl) rfl (fun KK hK => ?_)
      go_simp
      refine HCA.out.mono ?_
      rintro e w14 ⟨z4, t14, kc14, ca14, F14, rfl, h14⟩
      go_simp
      have HI14 := Lib.hid h14.out.1
      have HN14 := Lib.hid (HN11.out.ext h14.out.2.1 HIx.out.ms.fine.wf.ok.good)
      have HZ14 := Lib.hid h14.out.2.2.1
      have HRS := Lib.hid (srow_spec (HRB.out HI14.out.r).row (Nat.le_refl _) hk6 HMm.out (reads_old HLR.out HI14.out.ms.kp) (by omega) false)
      clear HCA h14 HIx HN11 HG11
      refine hK.out _ _ ?s4b (fun hHeld => ?_)
      case s4b => exact HI14.out.r.r i b HBB.out
      clear hK KK
      (try simp only [Act.put, List.setIfInBounds_toArray, List.set_cons_zero, List.set_cons_succ])
      refine wpAnyH_one (i := 11) (by kernel_rfl) rfl (fun KK hK => ?_)
      go_simp
      refine HRS.out.mono ?_
      rintro e w15 ⟨br, cr, rfl, h15⟩
      go_simp
      have HI15 := Lib.hid (HI14.out.quiet h15.out.2.1)
      have HIS := Lib.hid (HI15.out.isR hk6 HMm.out (by omega) HZ14.out (rowsS_of false l HDE.out HRO.out) h15.out.2.2 h15.out.1)
      clear HRS h15 HI14 HZ14
      refine hK.out _ _ ?s11b (fun hHeld => ?_)
      case s11b => exact HI15.out.r.r i b HBB.out
      clear hK KK
      (try simp only [Act.put, List.setIfInBounds_toArray, List.set_cons_zero, List.set_cons_succ])
      refine wpAnyH_one (i := 12) (by kernel_rfl) rfl (fun KK hK => ?_)
      go_simp
      refine HIS.out.mono ?_
      rintro e w16 ⟨rfl, h16⟩
      go_simp
      have HIx := Lib.hid (HI15.out.quiet h16.out)
      clear HI15
      have HCA : Hid (Calls Try.prog 23 #[.pointer (some ⟨db, 0, none⟩), .int .i64 f, .slice ao2 nl cap2] w16 (QtPost w0 w16 k s _ 32 db lb rb m bs _ _ (eachEv false E l))) := HIx.out.named false hk6 (by omega) HN14.out HLR.out hl8
      clear HIS h16
      refine hK.out _ _ ?s12b (fun hHeld => ?_)
      case s12b => exact HIx.out.r.r i b HBB.out
      clear hK KK
      (try simp only [Act.put, List.setIfInBounds_toArray, List.set_cons_zero, List.set_cons_succ])
      refine wpAnyH_take_at (i := 13) (v := ?v13b) rfl (by kernel_rfl) (by kernel_rfl) (by kernel_rfl) (fun _ _ _ h => h) (Or.inl ⟨by rfl, ?y13b⟩) hHeld ?r13b
      case y13b => (intro w hSw; (try dsimp only at hSw); go_simp; first | done | with_reducible rfl)
      (try simp only [Act.put, List.setIfInBounds_toArray, List.set_cons_zero, List.set_cons_succ])
      refine wpAnyH_take_at (i := 14) (v := ?v14b) rfl (by kernel_rfl) (by kernel_rfl) (by kernel_rfl) (fun _ _ _ h => h) (Or.inl ⟨by rfl, ?y14b⟩) hHeld ?r14b
      case y14b => (intro w hSw; (try dsimp only at hSw); go_simp; first | done | with_reducible rfl)
      (try simp only [Act.put, List.setIfInBounds_toArray, List.set_cons_zero, List.set_cons_succ])
      refine wpAnyH_take_at (i := 15) (v := ?v15b) rfl (by kernel_rfl) (by kernel_rfl) (by kernel_rfl) (fun _ _ _ h => h) (Or.inl ⟨by rfl, ?y15b⟩) hHeld ?r15b
      case y15b => (intro w hSw; (try dsimp only at hSw); go_simp; first | done | with_reducible rfl)
      (try simp only [Act.put, List.setIfInBounds_toArray, List.set_cons_zero, List.set_cons_succ])
      refine wpAnyH_take_at (i := 16) (v := ?v16b) rfl (by kernel_rfl) (by kernel_rfl) (by kernel_rfl) (fun _ _ _ h => h) (Or.inl ⟨by rfl, ?y16b⟩) hHeld ?r16b
      case y16b => (intro w hSw; (try dsimp only at hSw); go_simp; first | done | with_reducible rfl)
      (try simp only [Act.put, List.setIfInBounds_toArray, List.set_cons_zero, List.set_cons_succ])
      refine wpAnyH_take_at (i := 17) (v := ?v17b) rfl (by kernel_rfl) (by kernel_rfl) (by kernel_rfl) (fun _ _ _ h => h) (Or.inl ⟨by rfl, ?y17b⟩) hHeld ?r17b
      case y17b => (intro w hSw; (try dsimp only at hSw); go_simp; first | done | with_reducible rfl)
      (try simp only [Act.put, List.setIfInBounds_toArray, List.set_cons_zero, List.set_cons_succ])
      refine wpAnyH_take_at (i := 18) (v := ?v18b) rfl (by kernel_rfl) (by kernel_rfl) (by kernel_rfl) (fun _ _ _ h => h) (Or.inl ⟨by rfl, ?y18b⟩) hHeld ?r18b
      case y18b => (intro w hSw; (try dsimp only at hSw); go_simp; first | done | with_reducible rfl)
      (try simp only [Act.put, List.setIfInBounds_toArray, List.set_cons_zero, List.set_cons_succ])
      refine wpAnyH_take_at (i := 20) (v := ?v20b) rfl (by kernel_rfl) (by kernel_rfl) (by kernel_rfl) (fun _ _ _ h => h) (Or.inl ⟨by rfl, ?y20b⟩) hHeld ?r20b
      case y20b => (intro w hSw; (try dsimp only at hSw); go_simp; first | done | with_reducible rfl)
      (try simp only [Act.put, List.setIfInBounds_toArray, List.set_cons_zero, List.set_cons_succ])
      refine wpAnyH_take_at (i := 21) (v := ?v21b) rfl (by kernel_rfl) (by kernel_rfl) (by kernel_rfl) (fun _ _ _ h => h) (Or.inl ⟨by rfl, ?y21b⟩) hHeld ?r21b
      case y21b => (intro w hSw; (try dsimp only at hSw); go_simp; first | done | with_reducible rfl)
      (try simp only [Act.put, List.setIfInBounds_toArray, List.set_cons_zero, List.set_cons_succ])
      refine wpAnyH_take_at (i := 22) (v := ?v22b) rfl (by kernel_rfl) (by kernel_rfl) (by kernel_rfl) (fun _ _ _ h => h) (Or.inl ⟨by rfl, ?y22b⟩) hHeld ?r22b
      case y22b => (intro w hSw; (try dsimp only at hSw); go_simp; first | done | with_reducible rfl)
      (try simp only [Act.put, List.setIfInBounds_toArray, List.set_cons_zero, List.set_cons_succ])
      refine wpAnyH_take_at (i := 23) (v := ?v23b) rfl (by kernel_rfl) (by kernel_rfl) (by kernel_rfl) (fun _ _ _ h => h) (Or.inl ⟨by rfl, ?y23b⟩) hHeld ?r23b
      case y23b => (intro w hSw; (try dsimp only at hSw); go_simp; first | done | with_reducible rfl)
      (try simp only [Act.put, List.setIfInBounds_toArray, List.set_cons_zero, List.set_cons_succ])
      refine wpAnyH_take_at (i := 24) (v := ?v24b) rfl (by kernel_rfl) (by kernel_rfl) (by kernel_rfl) (fun _ _ _ h => h) (Or.inl ⟨by rfl, ?y24b⟩) hHeld ?r24b
      case y24b => (intro w hSw; (try dsimp only at hSw); go_simp; first | done | with_reducible rfl)
      (try simp only [Act.put, List.setIfInBounds_toArray, List.set_cons_zero, List.set_cons_succ])
      refine wpAnyH_take_at (i := 25) (v := ?v25b) rfl (by kernel_rfl) (by kernel_rfl) (by kernel_rfl) (fun _ _ _ h => h) (Or.inl ⟨by rfl, ?y25b⟩) hHeld ?r25b
      case y25b => (intro w hSw; (try dsimp only at hSw); go_simp; first | done | with_reducible rfl)
      (try simp only [Act.put, List.setIfInBounds_toArray, List.set_cons_zero, List.set_cons_succ])
      refine wpAnyH_one (i := 19) (by kernel_rfl) rfl (fun KK hK => ?_)
      go_simp
      refine HCA.out.mono ?_
      rintro e w17 ⟨z5, t17, kc17, ca17, F17, rfl, h17⟩
      go_simp
      have HI17 := Lib.hid h17.out.1
      have HN17 := Lib.hid (HN14.out.ext h17.out.2.1 HIx.out.ms.fine.wf.ok.good)
      have HZ17 := Lib.hid h17.out.2.2.1
      have HRS := Lib.hid (srow_spec (HRB.out HI17.out.r).row (Nat.le_refl _) hk6 HMm.out (reads_old HLR.out HI17.out.ms.kp) (by omega) true)
      clear HCA h17 HIx HN14
      refine hK.out _ _ ?s19b (fun hHeld => ?_)
      case s19b => exact HI17.out.r.r i b HBB.out
      clear hK KK
      (try simp only [Act.put, List.setIfInBounds_toArray, List.set_cons_zero, List.set_cons_succ])
      refine wpAnyH_one (i := 26) (by kernel_rfl) rfl (fun KK hK => ?_)
      go_simp
      refine HRS.out.mono ?_
      rintro e w18 ⟨br, cr, rfl, h18⟩
      go_simp
      have HI18 := Lib.hid (HI17.out.quiet h18.out.2.1)
      have HIS := Lib.hid (HI18.out.isR hk6 HMm.out (by omega) HZ17.out (rowsS_of true l HDE.out HRO.out) h18.out.2.2 h18.out.1)
      clear HRS h18 HI17 HZ17
      refine hK.out _ _ ?s26b (fun hHeld => ?_)
      case s26b => exact HI18.out.r.r i b HBB.out
      clear hK KK
      (try simp only [Act.put, List.setIfInBounds_toArray, List.set_cons_zero, List.set_cons_succ])
      refine wpAnyH_one (i := 27) (by kernel_rfl) rfl (fun KK hK => ?_)
      go_simp
      refine HIS.out.mono ?_
      rintro e w19 ⟨rfl, h19⟩
      go_simp
      have HIx := Lib.hid (HI18.out.quiet h19.out)
      clear HI18
      have HCA := Lib.hid (HIx.out.ms.supp hk6 (by omega) HN17.out)
      clear HIS h19
      refine hK.out _ _ ?s27b (fun hHeld => ?_)
      case s27b => exact HIx.out.r.r i b HBB.out
      clear hK KK
      (try simp only [Act.put, List.setIfInBounds_toArray, List.set_cons_zero, List.set_cons_succ])
      refine wpAnyH_take_at (i := 28) (v := ?v28b) rfl (by kernel_rfl) (by kernel_rfl) (by kernel_rfl) (fun _ _ _ h => h) (Or.inl ⟨by rfl, ?y28b⟩) hHeld ?r28b
      case y28b => (intro w hSw; (try dsimp only at hSw); go_simp; first | done | with_reducible rfl)
      (try simp only [Act.put, List.setIfInBounds_toArray, List.set_cons_zero, List.set_cons_succ])
      refine wpAnyH_take_at (i := 29) (v := ?v29b) rfl (by kernel_rfl) (by kernel_rfl) (by kernel_rfl) (fun _ _ _ h => h) (Or.inl ⟨by rfl, ?y29b⟩) hHeld ?r29b
      case y29b => (intro w hSw; (try dsimp only at hSw); go_simp; first | done | with_reducible rfl)
      (try simp only [Act.put, List.setIfInBounds_toArray, List.set_cons_zero, List.set_cons_succ])
      refine wpAnyH_take_at (i := 30) (v := ?v30b) rfl (by kernel_rfl) (by kernel_rfl) (by kernel_rfl) (fun _ _ _ h => h) (Or.inl ⟨by rfl, ?y30b⟩) hHeld ?r30b
      case y30b => (intro w hSw; (try dsimp only at hSw); go_simp; first | done | with_reducible rfl)
      (try simp only [Act.put, List.setIfInBounds_toArray, List.set_cons_zero, List.set_cons_succ])
      refine wpAnyH_take_at (i := 31) (v := ?v31b) rfl (by kernel_rfl) (by kernel_rfl) (by kernel_rfl) (fun _ _ _ h => h) (Or.inl ⟨by rfl, ?y31b⟩) hHeld ?r31b
      case y31b => (intro w hSw; (try dsimp only at hSw); go_simp; first | done | with_reducible rfl)
      (try simp only [Act.put, List.setIfInBounds_toArray, List.set_cons_zero, List.set_cons_succ])
      refine wpAnyH_take_at (i := 32) (v := ?v32b) rfl (by kernel_rfl) (by kernel_rfl) (by kernel_rfl) (fun _ _ _ h => h) (Or.inl ⟨by rfl, ?y32b⟩) hHeld ?r32b
      case y32b => (intro w hSw; (try dsimp only at hSw); go_simp; first | done | with_reducible rfl)
      (try simp only [Act.put, List.setIfInBounds_toArray, List.set_cons_zero, List.set_cons_succ])
      refine wpAnyH_take_at (i := 34) (v := ?v34b) rfl (by kernel_rfl) (by kernel_rfl) (by kernel_rfl) (fun _ _ _ h => h) (Or.inl ⟨by rfl, ?y34b⟩) hHeld ?r34b
      case y34b => (intro w hSw; (try dsimp only at hSw); go_simp; first | done | with_reducible rfl)
      (try simp only [Act.put, List.setIfInBounds_toArray, List.set_cons_zero, List.set_cons_succ])
      refine wpAnyH_take_at (i := 35) (v := ?v35b) rfl (by kernel_rfl) (by kernel_rfl) (by kernel_rfl) (fun _ _ _ h => h) (Or.inl ⟨by rfl, ?y35b⟩) hHeld ?r35b
      case y35b => (intro w hSw; (try dsimp only at hSw); go_simp; first | done | with_reducible rfl)
      (try simp only [Act.put, List.setIfInBounds_toArray, List.set_cons_zero, List.set_cons_succ])
      refine wpAnyH_take_at (i := 36) (v := ?v36b) rfl (by kernel_rfl) (by kernel_rfl) (by kernel_rfl) (fun _ _ _ h => h) (Or.inl ⟨by rfl, ?y36b⟩) hHeld ?r36b
      case y36b => (intro w hSw; (try dsimp only at hSw); go_simp; first | done | with_reducible rfl)
      (try simp only [Act.put, List.setIfInBounds_toArray, List.set_cons_zero, List.set_cons_succ])
      refine wpAnyH_take_at (i := 37) (v := ?v37b) rfl (by kernel_rfl) (by kernel_rfl) (by kernel_rfl) (fun _ _ _ h => h) (Or.inl ⟨by rfl, ?y37b⟩) hHeld ?r37b
      case y37b => (intro w hSw; (try dsimp only at hSw); go_simp; first | done | with_reducible rfl)
      (try simp only [Act.put, List.setIfInBounds_toArray, List.set_cons_zero, List.set_cons_succ])
      refine wpAnyH_take_at (i := 38) (v := ?v38b) rfl (by kernel_rfl) (by kernel_rfl) (by kernel_rfl) (fun _ _ _ h => h) (Or.inl ⟨by rfl, ?y38b⟩) hHeld ?r38b
      case y38b => (intro w hSw; (try dsimp only at hSw); go_simp; first | done | with_reducible rfl)
      (try simp only [Act.put, List.setIfInBounds_toArray, List.set_cons_zero, List.set_cons_succ])
      refine wpAnyH_one (i := 33) (by kernel_rfl) rfl (fun KK hK => ?_)
      go_simp
      refine HCA.out.mono ?_
      rintro e w20 ⟨vs, Sv, Lk, rfl, h20⟩
      go_simp
      have HI20 := Lib.hid (HIx.out.quiet h20.out.1)
      have HSU := Lib.hid h20.out.2
      have HRS := Lib.hid (supprow_spec (HRB.out HI20.out.r).row (Nat.le_refl _) hk6 HMm.out)
      clear HCA h20 HIx
      refine hK.out _ _ ?s33b (fun hHeld => ?_)
      case s33b => exact HI20.out.r.r i b HBB.out
      clear hK KK
      (try simp only [Act.put, List.setIfInBounds_toArray, List.set_cons_zero, List.set_cons_succ])
      refine wpAnyH_one (i := 39) (by kernel_rfl) rfl (fun KK hK => ?_)
      go_simp
      refine HRS.out.mono ?_
      rintro e w21 ⟨vr, rfl, h21⟩
      go_simp
      have HI21 := Lib.hid (HI20.out.quiet h21.out.1)
      have HSM := Lib.hid (isame_spec (HSU.out.1.keeps h21.out.1) h21.out.2 HSU.out.2.2.2.2.2 (by rw [← HMm.out]; exact rowV_eq HDE.out HRO.out HSU.out.2.1 HSU.out.2.2.1))
      clear HRS h21 HI20 HSU
      refine hK.out _ _ ?s39b (fun hHeld => ?_)
      case s39b => exact HI21.out.r.r i b HBB.out
      clear hK KK
      (try simp only [Act.put, List.setIfInBounds_toArray, List.set_cons_zero, List.set_cons_succ])
      refine wpAnyH_one (i := 40) (by kernel_rfl) rfl (fun KK hK => ?_)
      go_simp
      refine HSM.out.mono ?_
      rintro e w' ⟨rfl, nq, rfl⟩
      go_simp
      have kE : Keeps (fun _ => False) w21 (w21.drewN nq) := (Keeps.refl _ _).drewN nq
      have HIE := Lib.hid (HI21.out.quiet kE)
      generalize w21.drewN nq = wE at *
      clear kE HSM HI21
      refine hK.out _ _ ?s40b (fun hHeld => ?_)
      case s40b => exact HIE.out.r.r i b HBB.out
      clear hK KK
      (try simp only [Act.put, List.setIfInBounds_toArray, List.set_cons_zero, List.set_cons_succ])
      refine wpAnyH_take_at (i := 41) (v := ?v41b) rfl (by kernel_rfl) (by kernel_rfl) (by kernel_rfl) (fun _ _ _ h => h) (Or.inl ⟨by rfl, ?y41b⟩) hHeld ?r41b
      case y41b => (intro w hSw; (try dsimp only at hSw); go_simp; first | done | with_reducible rfl)
      (try simp only [Act.put, List.setIfInBounds_toArray, List.set_cons_zero, List.set_cons_succ])
      refine wpAnyH_take_at (i := 42) (v := ?v42b) rfl (by kernel_rfl) (by kernel_rfl) (by kernel_rfl) (fun _ _ _ h => h) (Or.inl ⟨by rfl, ?y42b⟩) hHeld ?r42b
      case y42b => (intro w hSw; (try dsimp only at hSw); go_simp; first | done | with_reducible rfl)
      (try simp only [Act.put, List.setIfInBounds_toArray, List.set_cons_zero, List.set_cons_succ])
      refine wpAnyH_done (by kernel_rfl) ?_ _
      refine NoPanic.normal ?_
      clear hHeld hS1
      have HNX : Hid (∃ st kc calls F, QtS w0 wE k s ((i + 1) * 69) db lb rb m bs st kc calls F) := ⟨_, _, _, _, HIE.out.wider (by omega)⟩
      clear HIE HBB HRB HRB2
      go_wp2_with fail
      go_roundg (j + 2 - (i + 1))
      case measure => omega
      case rel => exact ⟨i + 1, by omega, rfl, by go_num, HNX⟩
    · have hiI : ¬ (i : Int) < (j : Int) + 2 := by omega
      have HM3 : Hid (Keeps (fun x => w0.heap.size ≤ x) w0 wr) := hI.ms.kp
      clear hI
      go_wp2_with fail
      refine (HL.out _).mono ?_
      rintro e w4 ⟨rfl, hb⟩
      go_wp2_with fail
      go_ret
      exact ⟨rfl, (HEND.out _ HM3.out).1.trans (hb.mono (HEND.out _ HM3.out).2)⟩
theorem quantTells_walk (w : World) (ao : Option Addr) (n cap : Nat) (G : Nat → Nat → Value) (R : IsRow w [.int .u64, .int .u64, .int .u64, .int .u64] ao n cap G) (x : Int) (hx0 : 0 ≤ x) (hx1 : x ≤ 18446744073709551615) (v : Int) (ao2 : Option Addr) (n2 cap2 : Nat) (G2 : Nat → Nat → Value) (R2 : IsRow w [.int .i64] ao2 n2 cap2 G2) :
    Calls Try.prog 6 #[.slice ao n cap, .int .u64 x, .agg #[.int .i64 v, .slice ao2 n2 cap2]] w fun e w' => e = .returned (.bool true) ∧ Below w.heap.size w w' := by
  obtain ⟨X, rfl⟩ := Int.eq_ofNat_of_zero_le hx0
  obtain ⟨os, hos, hO⟩ := R.ops
  obtain ⟨l, hl, hlr⟩ := R2.intsTo (m := min n2 8) (Nat.min_le_left _ _)
  exact quantTells_core w X (by omega) ao n cap os hos hO R.le v ao2 n2 cap2 _ rfl R2.le l hl hlr
end Go.Proofs.Ytfakjhcpaiaekaa
