/-
  The walk of the law OrderBest.
-/
import Derived.Test.YtipcgjigkipcpaaOrderBestState
import Derived.Test.YtipcgjigkipcpaaMI
import Derived.Test.YtipcgjigkipcpaaItePlayRun
set_option linter.unusedVariables false
set_option linter.unusedSimpArgs false
set_option linter.unnecessarySimpa false
namespace Go.Proofs.Ytipcgjigkipcpaa
open Go.ChangeShapes Go.WideShapes Go.ChangeAt Go.RowKit Go.Deep NodePlain
theorem own_nought {w : World} {base b : Nat} {e : TypeId} {size : Nat} (h : w.heap[b]? = some (.cells #[] e (0, 0))) (hb : base ≤ b) : w.ownsRow base e size (.slice (some ⟨b, 0, none⟩) 0 0) 0 [] :=
  ⟨by simp, .inr ⟨b, 0, #[], rfl, hb, h, Nat.le_refl _, by unfold maxLen; omega, by simp, by simp⟩⟩
theorem idL_succ (i : Nat) : (idL i).map (Value.int .i64) ++ [.int .i64 (i : Int)] = (idL (i + 1)).map (Value.int .i64) := by
  unfold idL
  rw [List.range_succ, List.map_append, List.map_append]
  rfl
set_option maxRecDepth 100000 in
set_option maxHeartbeats 6400000 in
theorem orderBest_core (w : World) (X Y : Nat) (hX : X < 18446744073709551616) (hY : Y < 18446744073709551616) (ao : Option Addr) (n cap : Nat) (os : List OpR) (hos : os.length = n) (hO : OpRow w ao os) (hcap : n ≤ cap) :
    Calls Try.prog 9 #[.int .u64 X, .slice ao n cap, .int .u64 Y] w fun e w' => e = .returned (.bool true) ∧ Below w.heap.size w w' := by
  obtain ⟨k, hk⟩ : ∃ k, X % 7 = k := ⟨_, rfl⟩
  have hk6 : k ≤ 6 := by omega
  obtain ⟨m, hm⟩ : ∃ m, 2 ^ k = m := ⟨_, rfl⟩
  obtain ⟨t, ht⟩ : ∃ t, Y % 5 = t := ⟨_, rfl⟩
  have ht4 : t ≤ 4 := by omega
  have htm : (Y : Int).tmod 5 = (t : Int) := by rw [Int.tmod_eq_emod_of_nonneg (by omega)]; omega
  have htw : IntKind.u64.wrap (t : Int) = (t : Int) := IntWalk.u64_in _ (by omega)
  have htv : IntKind.i64.wrap (t : Int) = (t : Int) := IntWalk.i64_in _ (by omega)
  have hwk : IntKind.i64.wrap ((k : Int) - 1) = (k : Int) - 1 := IntWalk.i64_in _ (by omega)
  have HM : Hid (Calls Try.prog 12 #[.int .u64 X] w fun e W' => e = .returned (.int .i64 (k : Int)) ∧ w = W') := by
    have e := many_spec w X hX
    rw [hk] at e
    exact e
  have HN1 : Hid (Calls Try.prog 13 #[.int .i64 (k : Int), .int .i64 1048576] w fun e W' => ∃ db Fp, e = .returned (.pointer (some ⟨db, 0, none⟩)) ∧ Hid (Bd W' db k 1048576 st0 0 Fp ∧ Keeps (fun _ => False) w W' ∧ ∀ x, Fp x → w.heap.size ≤ x)) := bnew_spec w k 1048576 k 1048576 (by omega) (by omega) rfl ⟨by omega, rfl⟩
  have HP : Hid (∀ (W : World) (db : Nat) (B : Int) (Fp : Nat → Prop), Bd W db k B st0 0 Fp → OpRow W ao os → (0 < os.length → ∀ b off, ao = some ⟨b, off, none⟩ → ¬ Fp b) → Calls Try.prog 14 #[.pointer (some ⟨db, 0, none⟩), .int .i64 (k : Int), .slice ao n cap] W (PlayPost k B k m os db Fp W (playM k B k os))) := fun W db B Fp h ho hf => play_spec k hk6 rfl _ hm h ho hos hcap hf
  have HO := Lib.hid hO
  have HB : Hid (0 < os.length → ∀ b off, ao = some ⟨b, off, none⟩ → b < w.heap.size) := fun h0 b off e => by
    obtain ⟨b', off', e', hlt, _⟩ := hO h0
    rw [e'] at e
    simp only [Option.some.injEq, Addr.mk.injEq, and_true] at e
    omega
  have HF := Lib.hid (tells_facts k hk6 m hm os)
  have HL := Lib.hid lives37_any
  have HMS : Hid (∀ {w1 w2 : World} {db : Nat} {Fd Fd' : Nat → Prop} {lv rv : Value} {bs : List Nat} {s : PlS}, playM k 1048576 k os = s → (Bd w1 db k 1048576 st0 0 Fd ∧ Keeps (fun _ => False) w w1 ∧ ∀ x, Fd x → w.heap.size ≤ x) → (Pl w1.heap.size w2 db k 1048576 m s.st s.calls Fd' s.l lv s.Rs rv bs ∧ Mv w1 w2 Fd Fd') → 0 < s.l.length → s.st.n ≤ 23040 → s.calls ≤ 90 →
      ∃ lb lc, lv = .slice (some ⟨lb, 0, none⟩) s.l.length lc ∧ s.l.length ≤ lc ∧ ∃ F, MkS w w2 k s 0 0 db lb s.st 90 s.calls F) := fun hs hd pd h0 hn hc => mks_of hk6 hs hd pd h0 hn hc
  obtain ⟨i0, hi0, hz0, hz1, hz2⟩ := info_parts iinfo
  clear hO hX hY hk hm ht
  go_enter Try.func9, Try.ntmps9
  go_wp2_with fail
  refine HM.out.mono ?_
  rintro e w' ⟨rfl, rfl⟩
  clear HM
  go_wp2_with fail
  refine HN1.out.mono ?_
  rintro e w1 ⟨db, Fd, rfl, hd⟩
  clear HN1
  have HO1 : Hid (OpRow w1 ao os) := HO.out.keeps hd.out.2.1 (fun _ _ _ x => x)
  have HF1 : Hid (0 < os.length → ∀ b off, ao = some ⟨b, off, none⟩ → ¬ Fd b) := fun h0 b off e hf => by
    have h1 := HB.out h0 b off e
    have := hd.out.2.2 b hf
    omega
  clear HO HB
  go_wp2_with fail
  refine (HP.out w1 db 1048576 Fd hd.out.1 HO1.out HF1.out).mono ?_
  rintro e w2 ⟨lv, rv, bs, Fd', rfl, hpd⟩
  clear HO1 HF1 HP
  obtain ⟨s, hs⟩ : ∃ s, playM k 1048576 k os = s := ⟨_, rfl⟩
  rw [hs] at HF hpd ⊢
  generalize (os.take 30).length = j at HF
  have hj := HF.out.le
  have f1 := HF.out.len
  obtain ⟨lb, lc, rfl, hlc, F0, hS⟩ := HMS.out hs hd.out hpd.out (by omega) HF.out.n HF.out.calls
  obtain ⟨J, hJ⟩ : ∃ J, j + 1 = J := ⟨_, rfl⟩
  have f2 : s.l.length = J + 1 := by omega
  have hJ9 : J ≤ 1000 := by omega
  have hwJ : IntKind.i64.wrap (J : Int) = (J : Int) := IntWalk.i64_in _ (by omega)
  obtain ⟨f, hx⟩ : ∃ x, s.l[J]? = some x := ⟨_, List.getElem?_eq_getElem (by omega)⟩
  have hc0 := hS.l J f hx
  have hx1 := hS.ext.is (HF.out.is J f hx)
  obtain ⟨E, hE⟩ : ∃ E : (Nat → Bool) → Bool, (fun β => ev s.st.L β f) = E := ⟨_, rfl⟩
  have hbe := byOrd_id hS.fine.wf.ok.good hx1
  rw [hE] at hbe
  have HNF : Hid (Num s.st f E) := ⟨hx1, fun β => by rw [← hE]⟩
  have HBE : Hid (∀ β, byOrd E (idL k) β = E β) := fun β => by rw [hbe, ← hE]
  obtain ⟨σ, hσ⟩ := sizes_of (V := (k : Int)) (by omega) (byOrd E)
  have HSG := Lib.hid hσ
  have HS := Lib.hid hS
  rw [f2] at hlc ⊢
  have hlc2 : J < lc := by omega
  clear hd hpd hS HMS hs hx hx1 hE hbe hσ f1 f2 HF hJ hj
  go_wp2_with fail
  have HBEST := Lib.hid (best_spec HS.out hk6 (by omega) (by omega) HNF.out HBE.out HSG.out t ht4)
  have HSZ : Hid (∀ {W' : World} {u c : Nat} {st' : St} {kc' : Nat} {calls' : Int} {F' : Nat → Prop} {x : Int} {l : List Int}, MkS w W' k s u c db lb st' kc' calls' F' → u ≤ 900000 → Num st' x (byOrd E l) → Calls Try.prog 48 #[.pointer (some ⟨db, 0, none⟩), .int .i64 x] W' fun e W2 => e = .returned (.int .i64 (σ l : Nat)) ∧ Keeps (fun _ => False) W' W2) := fun hm hu hx => hm.sizeN hk6 hu HSG.out hx
  obtain ⟨b0, hb0⟩ : ∃ b, (idL k, σ (idL k)) = b := ⟨_, rfl⟩
  have HB0 : Hid (b0.1 = idL k ∧ b0.2 = σ (idL k)) := by rw [← hb0]; exact ⟨rfl, rfl⟩
  rw [hb0] at HBEST
  clear HS HSG hb0 hc0 HNF
  refine HBEST.out.mono ?_
  rintro e w3 ⟨bv, rfl, h3⟩
  obtain ⟨st1, kc1, ca1, F1, hb1, _⟩ := h3
  have HB1 := Lib.hid hb1
  have hft := hb1.m.bd.lt
  clear hb1 HBEST
  go_wp2_with fail
  go_loopg [15, 60] k (fun g lv ts wx => ∃ (i : Nat), i ≤ k ∧ g = k - i ∧ ts = .int .i64 i ∧ Hid (Keeps (fun _ => False) w3 wx ∧ wx.ownsRow w3.heap.size 3 1 lv i ((idL i).map (Value.int .i64))))
  case atStart => exact ⟨0, Nat.zero_le _, rfl, rfl, Keeps.refl _ _, World.ownsRow_nil _ _ _ _⟩
  case round =>
    obtain ⟨i, hi, rfl, rfl, HW⟩ := hrel
    by_cases hlt : i < k
    · have hiI : (i : Int) < (k : Int) := by omega
      have hsz3 := HW.out.1.size
      go_wp2_with (at_builtin; refine wpList_append_own _ rfl _ _ 28 rfl w3.heap.size 3 i0 _ 1 8 Try.underlying28 hi0 hz0 hz1 hz2 rfl (by decide) _ _ _ rfl (HW.out.2.alloc _) ⟨wr.heap.size, 0, none⟩ 1 1 [.int .i64 (i : Int)] rfl rfl (cells_new wr _ _) (by intro u hu; simp only [List.mem_cons, List.not_mem_nil, or_false] at hu; subst hu; rfl) (by unfold maxLen; omega) (by omega) (by simp; omega) ?_)
      intro v2 w6 hown2 hgrow _
      have HN : Hid (Keeps (fun _ => False) w3 w6 ∧ w6.ownsRow w3.heap.size 3 1 v2 (i + 1) ((idL (i + 1)).map (Value.int .i64))) := by
        refine ⟨?_, ?_⟩
        · exact (HW.out.1.trans ((Keeps.refl (fun _ => False) wr).alloc _)).trans_new (keeps_grown hgrow) (fun q hq e => by have := own_block HW.out.2 q e; omega)
        · rw [← idL_succ]; exact hown2
      clear hown2 hgrow HW
      go_wp2_with fail
      go_roundg (k - (i + 1))
      case measure => omega
      case rel => exact ⟨i + 1, by omega, rfl, by go_num, HN.out⟩
    · obtain rfl : k = i := by omega
      have hiI : ¬ (k : Int) < (k : Int) := by omega
      have HV := Lib.hid (rowF_own HW.out.2 (by simp [idL]) hft)
      have HB2 := Lib.hid (HB1.out.quiet HW.out.1)
      have HLW : Hid (LwE w wr k s (0 + t * 20160 + 0 * 20160) (0 + t * 630 + 0 * 630) db lb f E u15 (bestB σ k b0 0).1 bv (bestB σ k b0 t).1 bv (bestB σ k b0 t).1) := ⟨st1, kc1, ca1, F1, ⟨⟨HB2.out.m.wider (by omega) (by omega), HB2.out.f, by
        show RowF wr F1 _ b0.1
        rw [HB0.out.1]
        exact HV.out⟩, HB2.out.r, HB2.out.r⟩⟩
      have HSZ0 := Lib.hid (HSZ.out HB2.out.m (by omega) (x := f) (l := idL k) ⟨HB2.out.f.is, fun β => (HB2.out.f.ev β).trans (HBE.out β).symm⟩)
      clear HB1 HW HV HB2
      go_wp2_with fail
      refine HSZ0.out.mono ?_
      rintro e w4 ⟨rfl, hk4⟩
      clear HSZ0
      have HLW4 : Hid (LwE w w4 k s (0 + t * 20160 + 0 * 20160) (0 + t * 630 + 0 * 630) db lb f E u15 (bestB σ k b0 0).1 bv (bestB σ k b0 t).1 bv (bestB σ k b0 t).1) := by
        obtain ⟨a1, a2, a3, a4, q⟩ := HLW.out
        exact ⟨a1, a2, a3, a4, q.quiet hk4⟩
      have hn0 : σ (idL k) = (bestB σ k b0 0).2 := by show _ = b0.2; rw [HB0.out.2]
      rw [hn0]
      clear HLW hk4 hn0 hft
      go_wp2_with fail
      go_loopg [15, 17, 74] t (fun g nv ls ts wx => ∃ r, r ≤ t ∧ g = t - r ∧ ts = .int .i64 r ∧ ls = .int .i64 ((bestB σ k b0 r).2 : Nat) ∧ Hid (LwE w wx k s (0 + t * 20160 + r * 20160) (0 + t * 630 + r * 630) db lb f E nv (bestB σ k b0 r).1 bv (bestB σ k b0 t).1 bv (bestB σ k b0 t).1))
      case atStart => exact ⟨0, Nat.zero_le _, rfl, rfl, rfl, HLW4.out⟩
      case round =>
        clear HLW4
        obtain ⟨r, hr, rfl, rfl, rfl, HS⟩ := hrel
        by_cases hlt2 : r < t
        · have hrI : (r : Int) < (t : Int) := by omega
          obtain ⟨bb, hbb⟩ : ∃ x, bestB σ k b0 r = x := ⟨_, rfl⟩
          have HBB := Lib.hid hbb
          have hordb : ordB k bb.1 = true := hbb ▸ best_ordT σ (by omega) HB0.out.1 r
          have HOB := Lib.hid hordb
          have HLB : Hid (bb.1.length = k) := by have := (ordB_iff.1 hordb).2.2.1; show _ = _; omega
          obtain ⟨st2, kc2, ca2, F2, hb2⟩ := HS.out
          rw [hbb] at hb2 ⊢
          have HI0 : Hid (LwE w wr k s (0 + t * 20160 + r * 20160 + 0 * 4032) (0 + t * 630 + r * 630 + 0 * 126) db lb f E u15 (roundB σ bb.1 0 bb).1 bv (bestB σ k b0 t).1 u15 bb.1) := ⟨st2, kc2, ca2, F2, ⟨hb2.b.m.wider (by omega) (by omega), hb2.b.f, hb2.b.r⟩, hb2.r2, hb2.b.r⟩
          clear HS hbb hordb hb2
          go_wp2_with fail
          go_loopg [18, 19, 80] (k - 1) (fun g ls nv ts wx => ∃ i, i ≤ k - 1 ∧ g = k - 1 - i ∧ ts = .int .i64 i ∧ ls = .int .i64 ((roundB σ bb.1 i bb).2 : Nat) ∧ Hid (LwE w wx k s (0 + t * 20160 + r * 20160 + i * 4032) (0 + t * 630 + r * 630 + i * 126) db lb f E nv (roundB σ bb.1 i bb).1 bv (bestB σ k b0 t).1 u15 bb.1))
          case atStart => exact ⟨0, Nat.zero_le _, rfl, rfl, rfl, HI0.out⟩
          case round =>
            clear HI0
            obtain ⟨i, hi, rfl, rfl, rfl, HS⟩ := hrel
            by_cases hlt3 : i < k - 1
            · have hiI : (i : Int) < (k : Int) - 1 := by omega
              have hi1 : i + 1 < k := by omega
              obtain ⟨st3, kc3, ca3, F3, hb3⟩ := HS.out
              obtain ⟨ro, rc, hre, hrle, hrd⟩ := hb3.r3.rd
              rw [HLB.out] at hre hrle hrd
              subst hre
              obtain ⟨rb, roff, rfl, hrb, hrcell⟩ := hrd (by omega)
              have HB3 := Lib.hid hb3
              have HRC := Lib.hid hrcell
              have hal := (MapKept.heap_alloc wr (.cells #[] 3)).1
              have hk4 : Keeps (fun _ => False) wr (wr.alloc (.cells #[] 3)) := (Keeps.refl _ _).alloc _
              have HE := Lib.hid (own_nought (base := wr.heap.size) (size := 1) hal (Nat.le_refl _))
              have HNW : Hid (∀ (q : Nat) (v : Value), (bb.1.map (Value.int .i64))[q]? = some v → (wr.alloc (.cells #[] 3)).cell? ((⟨rb, roff, none⟩ : Addr).add q) = some v) := fun q v hq => by
                rw [List.getElem?_map] at hq
                obtain ⟨x, hx, rfl⟩ := Option.map_eq_some_iff.1 hq
                rw [Addr.add_lit]
                exact (hk4.cell (p := ⟨rb, roff + q, none⟩) hrb (fun x => x)).trans (hrcell q x hx)
              have HON : Hid (∀ v ∈ bb.1.map (Value.int .i64), v.oneCell' = true) := fun v hv => by
                obtain ⟨x, _, rfl⟩ := List.mem_map.1 hv
                rfl
              have HK4 := Lib.hid hk4
              clear HS hb3 hrd hrcell hal hk4
              go_wp2_with (at_builtin; refine wpList_append_own _ rfl _ _ 28 rfl wr.heap.size 3 i0 _ 1 8 Try.underlying28 hi0 hz0 hz1 hz2 rfl (by decide) _ 0 [] rfl HE.out ⟨rb, roff, none⟩ k rc (bb.1.map (Value.int .i64)) rfl (by rw [List.length_map, HLB.out, Nat.mul_one]) HNW.out HON.out (by unfold maxLen; omega) (by omega) (by have := HK4.out.size; omega) ?_)
              intro v5 w5 hown5 hgrow5 _
              try simp only [List.nil_append, Nat.zero_add] at hown5
              have hk5 : Keeps (fun _ => False) wr w5 := HK4.out.trans_new (keeps_grown hgrow5) (fun q hq e => by simp only [Value.ownBlock, Option.some.injEq] at e; omega)
              obtain ⟨no, nc, rfl, hnle, _, hno, hnb⟩ := own_form hown5
              obtain ⟨gb, rfl⟩ : ∃ g, no = some ⟨g, 0, none⟩ := by
                cases no with
                | none => have := (hno rfl).1; omega
                | some q => exact ⟨q.block, by obtain ⟨q1, q2, _⟩ := hnb q rfl; obtain ⟨q3, q4, q5⟩ := q; simp only at q1 q2; subst q1 q2; rfl⟩
              have hgb := (hnb _ rfl).2.2.2.1
              simp only [] at hgb
              have HPR : Hid (PartRow w5 gb bb.1 i 0) := .start hown5
              have HB5 : Hid (∀ wx, Keeps (fun q => q = gb) w5 wx → LwS w wx k s (0 + t * 20160 + r * 20160 + i * 4032) (0 + t * 630 + r * 630 + i * 126) db lb f E u19 (roundB σ bb.1 i bb).1 bv (bestB σ k b0 t).1 (.slice (some ⟨rb, roff, none⟩) k rc) bb.1 st3 kc3 ca3 F3) := fun wx hx => HB3.out.quiet (hk5.trans_new hx (fun q hq e => by have e2 : q = gb := e; omega))
              have hgF : ¬ F3 gb := fun h => by have := HB3.out.b.m.bd.lt gb h; omega
              have hrb5 : rb < w5.heap.size := Nat.lt_of_lt_of_le hrb hk5.size
              have hrg : rb ≠ gb := by omega
              have HRC5 : Hid (∀ (q : Nat) (x : Int), bb.1[q]? = some x → w5.cell? ⟨rb, roff + q, none⟩ = some (.int .i64 x)) := fun q x hq => (hk5.cell (p := ⟨rb, roff + q, none⟩) hrb (fun x => x)).trans (HRC.out q x hq)
              clear hown5 hgrow5 hk5 hno hnb HE HNW HON HK4 HB3 HRC hrb
              go_wp2_with fail
              go_loopg [88] k (fun g ts wx => ∃ y, y ≤ k ∧ g = k - y ∧ ts = .int .i64 y ∧ Hid (Keeps (fun q => q = gb) w5 wx ∧ PartRow wx gb bb.1 i y))
              case atStart => exact ⟨0, Nat.zero_le _, rfl, rfl, Keeps.refl _ _, HPR.out⟩
              case round =>
                clear HPR
                obtain ⟨y, hy, rfl, rfl, HR⟩ := hrel
                by_cases hlt4 : y < k
                · have hyI : (y : Int) < (k : Int) := by omega
                  have hwi : IntKind.i64.wrap ((i : Int) + 1) = (i : Int) + 1 := IntWalk.i64_in _ (by omega)
                  have hyr : y < rc := by omega
                  have hyn : y < nc := by omega
                  obtain ⟨x, hx⟩ : ∃ x, bb.1[y]? = some x := ⟨_, List.getElem?_eq_getElem (by have := HLB.out; omega)⟩
                  have hc := (HR.out.1.cell (p := ⟨rb, roff + y, none⟩) hrb5 (fun e => hrg e)).trans (HRC5.out y x hx)
                  obtain ⟨hg1, hg2, hg3⟩ := HR.out.2.read hx
                  have HX := Lib.hid hx
                  have HKS : Hid (∀ z, Keeps (fun q => q = gb) w5 (wr.setCell ⟨gb, y, none⟩ (.int .i64 z))) := fun z => HR.out.1.setCell (p := ⟨gb, y, none⟩) (fun _ => rfl) _
                  have HCS : Hid (∀ z, (wr.setCell ⟨gb, y, none⟩ (.int .i64 z)).cell? ⟨rb, roff + y, none⟩ = some (.int .i64 x)) := fun z => ((HKS.out z).cell (p := ⟨rb, roff + y, none⟩) hrb5 (fun e => hrg e)).trans (HRC5.out y x HX.out)
                  clear hx
                  by_cases hxi : x = (i : Int)
                  · subst hxi
                    have hne : ¬ (i : Int) = (i : Int) + 1 := by omega
                    have HN : Hid (Keeps (fun q => q = gb) w5 (wr.setCell ⟨gb, y, none⟩ (.int .i64 ((i : Int) + 1))) ∧ PartRow (wr.setCell ⟨gb, y, none⟩ (.int .i64 ((i : Int) + 1))) gb bb.1 i (y + 1)) := ⟨HKS.out _, HR.out.2.put HX.out (swV_i i)⟩
                    have hcs := HCS.out ((i : Int) + 1)
                    clear HR HKS HCS
                    go_upto_region 27 with fail
                    generalize wr.setCell ⟨gb, y, none⟩ (.int .i64 ((i : Int) + 1)) = wy at *
                    clear hc hg1 hg2 hg3
                    go_wp2_with fail
                    go_roundg (k - (y + 1))
                    case measure => omega
                    case rel => exact ⟨y + 1, by omega, rfl, by go_num, HN.out⟩
                  · by_cases hxj : x = (i : Int) + 1
                    · subst hxj
                      have HN : Hid (Keeps (fun q => q = gb) w5 (wr.setCell ⟨gb, y, none⟩ (.int .i64 (i : Int))) ∧ PartRow (wr.setCell ⟨gb, y, none⟩ (.int .i64 (i : Int))) gb bb.1 i (y + 1)) := ⟨HKS.out _, HR.out.2.put HX.out (swV_j i)⟩
                      clear HR HKS HCS
                      go_wp2_with fail
                      go_roundg (k - (y + 1))
                      case measure => omega
                      case rel => exact ⟨y + 1, by omega, rfl, by go_num, HN.out⟩
                    · have HN : Hid (Keeps (fun q => q = gb) w5 wr ∧ PartRow wr gb bb.1 i (y + 1)) := ⟨HR.out.1, HR.out.2.stay HX.out (swV_o hxi hxj)⟩
                      clear HR HKS HCS
                      go_wp2_with fail
                      go_roundg (k - (y + 1))
                      case measure => omega
                      case rel => exact ⟨y + 1, by omega, rfl, by go_num, HN.out⟩
                · obtain rfl : k = y := by omega
                  have hyI : ¬ (k : Int) < (k : Int) := by omega
                  have HP6 := Lib.hid (HR.out.2.row HLB.out rfl hnle hgF)
                  have HB6 := Lib.hid (HB5.out _ HR.out.1)
                  have hors := swap_ord HOB.out hi1
                  have HMV := Lib.hid (HB6.out.b.m.movedN hk6 (by omega) (by omega) hors HB6.out.b.f HP6.out)
                  clear HR HB5 hors HRC5
                  go_wp2_with fail
                  refine HMV.out.mono ?_
                  rintro e w7 ⟨x, st4, kc4, ca4, F4, rfl, h7⟩
                  have HB7 : Hid (MkS w w7 k s (0 + t * 20160 + r * 20160 + (i + 1) * 4032) (0 + t * 630 + r * 630 + (i + 1) * 126) db lb st4 kc4 ca4 F4) := h7.out.1.wider (by omega) (by omega)
                  have HF7 := Lib.hid (HB6.out.b.f.ext h7.out.2.2.1 HB6.out.b.m.fine.wf.ok.good)
                  have HR7 := Lib.hid (HP6.out.move h7.out.2.1)
                  have HV7 := Lib.hid (HB6.out.b.r.move h7.out.2.1)
                  have HV8 := Lib.hid (HB6.out.r2.move h7.out.2.1)
                  have HN7 := Lib.hid (HB6.out.r3.move h7.out.2.1)
                  have HSZ7 := Lib.hid (HSZ.out HB7.out (by omega) h7.out.2.2.2)
                  clear HB6 HP6 HMV h7
                  go_wp2_with fail
                  refine HSZ7.out.mono ?_
                  rintro e w8 ⟨rfl, hk8⟩
                  by_cases hcmp : σ (swapL bb.1 i) < (roundB σ bb.1 i bb).2
                  · have hcI : ((σ (swapL bb.1 i) : Nat) : Int) < (((roundB σ bb.1 i bb).2 : Nat) : Int) := by omega
                    have hst : roundB σ bb.1 (i + 1) bb = (swapL bb.1 i, σ (swapL bb.1 i)) := by rw [roundB, if_pos hcmp]
                    have HN8 : Hid (LwE w w8 k s (0 + t * 20160 + r * 20160 + (i + 1) * 4032) (0 + t * 630 + r * 630 + (i + 1) * 126) db lb f E (.slice (some ⟨gb, 0, none⟩) k nc) (roundB σ bb.1 (i + 1) bb).1 bv (bestB σ k b0 t).1 (.slice (some ⟨rb, roff, none⟩) k rc) bb.1) := ⟨st4, kc4, ca4, F4, ⟨HB7.out.quiet hk8, HF7.out, by rw [hst]; exact HR7.out.quiet hk8⟩, HV8.out.quiet hk8, HN7.out.quiet hk8⟩
                    have HST := Lib.hid hst
                    clear HB7 HF7 HR7 HV7 HV8 HN7 HSZ7 hk8 hst hcmp
                    go_wp2_with fail
                    go_roundg (k - 1 - (i + 1))
                    case measure => omega
                    case rel => exact ⟨i + 1, by omega, rfl, by go_num, by rw [HST.out], HN8.out⟩
                  · have hcI : ¬ ((σ (swapL bb.1 i) : Nat) : Int) < (((roundB σ bb.1 i bb).2 : Nat) : Int) := by omega
                    have hst : roundB σ bb.1 (i + 1) bb = roundB σ bb.1 i bb := by rw [roundB, if_neg hcmp]
                    have HN8 : Hid (LwE w w8 k s (0 + t * 20160 + r * 20160 + (i + 1) * 4032) (0 + t * 630 + r * 630 + (i + 1) * 126) db lb f E u19 (roundB σ bb.1 (i + 1) bb).1 bv (bestB σ k b0 t).1 (.slice (some ⟨rb, roff, none⟩) k rc) bb.1) := ⟨st4, kc4, ca4, F4, ⟨HB7.out.quiet hk8, HF7.out, by rw [hst]; exact HV7.out.quiet hk8⟩, HV8.out.quiet hk8, HN7.out.quiet hk8⟩
                    have HST := Lib.hid hst
                    clear HB7 HF7 HR7 HV7 HV8 HN7 HSZ7 hk8 hst hcmp
                    go_wp2_with fail
                    go_roundg (k - 1 - (i + 1))
                    case measure => omega
                    case rel => exact ⟨i + 1, by omega, rfl, by go_num, by rw [HST.out], HN8.out⟩
            · obtain rfl : k - 1 = i := by omega
              have hiI : ¬ ((k - 1 : Nat) : Int) < (k : Int) - 1 := by omega
              have hstp : bestB σ k b0 (r + 1) = roundB σ bb.1 (k - 1) bb := by show stepB σ k (bestB σ k b0 r) = _; rw [HBB.out]; rfl
              have HSTP := Lib.hid hstp
              obtain ⟨st3, kc3, ca3, F3, hb3⟩ := HS.out
              have HE1 : Hid (LwE w wr k s (0 + t * 20160 + (r + 1) * 20160) (0 + t * 630 + (r + 1) * 630) db lb f E u19 (bestB σ k b0 (r + 1)).1 bv (bestB σ k b0 t).1 bv (bestB σ k b0 t).1) := ⟨st3, kc3, ca3, F3, ⟨hb3.b.m.wider (by omega) (by omega), hb3.b.f, by rw [hstp]; exact hb3.b.r⟩, hb3.r2, hb3.r2⟩
              clear HS hstp hb3
              go_wp2_with fail
              go_roundg (t - (r + 1))
              case measure => omega
              case rel => exact ⟨r + 1, by omega, rfl, by go_num, by rw [HSTP.out], HE1.out⟩
        · obtain rfl : t = r := by omega
          have hrI : ¬ (t : Int) < (t : Int) := by omega
          obtain ⟨st2, kc2, ca2, F2, hb2⟩ := HS.out
          have HB2 := Lib.hid hb2
          have HOT := Lib.hid (best_ordT σ (k := k) (by omega) HB0.out.1 t)
          have HMV := Lib.hid (hb2.b.m.movedN hk6 (by omega) (by omega) HOT.out hb2.b.f hb2.r2)
          clear HS hb2
          go_wp2_with fail
          refine HMV.out.mono ?_
          rintro e w5 ⟨x, st3, kc3, ca3, F3, rfl, h5⟩
          have HM5 := Lib.hid h5.out.1
          have HX5 := Lib.hid h5.out.2.2.2
          have HF5 := Lib.hid (HB2.out.b.f.ext h5.out.2.2.1 HB2.out.b.m.fine.wf.ok.good)
          have HV5 := Lib.hid (HB2.out.r2.move h5.out.2.1)
          have HN5 := Lib.hid (HB2.out.b.r.move h5.out.2.1)
          clear h5 HMV HB2
          go_wp2_with fail
          refine (best_no HM5.out (by omega) hk6).mono ?_
          rintro e w' ⟨rfl, rfl⟩
          go_wp2_with fail
          have hlt5 : (bestB σ k b0 t).1.length = k := by have := (ordB_iff.1 HOT.out).2.2.1; omega
          have hsz5 : σ (bestB σ k b0 t).1 = (bestB σ k b0 t).2 := best_size σ (by rw [HB0.out.1, HB0.out.2]) t
          have hle5 : (bestB σ k b0 t).2 ≤ σ (idL k) := by rw [← HB0.out.2]; exact best_le σ b0 t
          have hleI : (((bestB σ k b0 t).2 : Nat) : Int) ≤ ((σ (idL k) : Nat) : Int) := by omega
          have HSZ5 := Lib.hid hsz5
          refine (isame_spec HV5.out.rd HN5.out.rd (by omega) (by omega) rfl).mono ?_
          rintro e w6 ⟨rfl, nq, rfl⟩
          have hk6' : Keeps (fun _ => False) w5 (w5.drewN nq) := (Keeps.refl _ _).drewN nq
          have HM6 := Lib.hid (HM5.out.quiet hk6')
          generalize w5.drewN nq = w6 at *
          clear HM5 HV5 HN5 hk6' hlt5 hle5 hsz5
          go_wp2_with fail
          refine (HSZ.out HM6.out (by omega) HX5.out).mono ?_
          rintro e w7 ⟨rfl, hk7⟩
          have HM7 := Lib.hid (HM6.out.quiet hk7)
          clear HM6 hk7
          rw [HSZ5.out]
          go_wp2_with fail
          refine (HSZ.out HM7.out (by omega) (x := f) (l := idL k) ⟨HF5.out.is, fun β => (HF5.out.ev β).trans (HBE.out β).symm⟩).mono ?_
          rintro e w8 ⟨rfl, hk8⟩
          have HM8 := Lib.hid (HM7.out.quiet hk8)
          clear HM7 hk8
          go_wp2_with fail
          refine (HL.out _).mono ?_
          rintro e w9 ⟨rfl, hb⟩
          go_wp2_with fail
          go_ret
          exact ⟨rfl, HM8.out.below.trans (hb.mono HM8.out.kp.size)⟩
theorem orderBest_walk (w : World) (x : Int) (hx0 : 0 ≤ x) (hx1 : x ≤ 18446744073709551615) (ao : Option Addr) (n cap : Nat) (G : Nat → Nat → Value) (R : IsRow w [.int .u64, .int .u64, .int .u64, .int .u64] ao n cap G) (y : Int) (hy0 : 0 ≤ y) (hy1 : y ≤ 18446744073709551615) :
    Calls Try.prog 9 #[.int .u64 x, .slice ao n cap, .int .u64 y] w fun e w' => e = .returned (.bool true) ∧ Below w.heap.size w w' := by
  obtain ⟨X, rfl⟩ := Int.eq_ofNat_of_zero_le hx0
  obtain ⟨Y, rfl⟩ := Int.eq_ofNat_of_zero_le hy0
  obtain ⟨os, hos, hO⟩ := R.ops
  exact orderBest_core w X Y (by omega) (by omega) ao n cap os hos hO R.le
end Go.Proofs.Ytipcgjigkipcpaa
