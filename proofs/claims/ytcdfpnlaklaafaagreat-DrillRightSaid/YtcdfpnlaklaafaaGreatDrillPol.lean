/-
 The drawing of policies: the program's.
-/
import Derived.Test.YtcdfpnlaklaafaaGreatPolNormP
set_option linter.unusedVariables false
set_option linter.unusedSimpArgs false
set_option linter.unnecessarySimpa false
namespace Go.Proofs.YtcdfpnlaklaafaaGreat
open Go.ChangeShapes Go.WideShapes Go.ChangeAt Go.RowKit Go.Deep
/-- What a drawing of a policy leaves. -/
def PolDr (W : World) (T : TypeId) (b : Nat) (p : Pol) (y : Int) (e : Ending) (W' : World) : Prop := ∃ v0 v1 v2 v3, e = .returned (.agg #[v0, v1, v2, v3]) ∧ Hid (StB W' T b y ∧ Keeps (fun q => q = b) W W' ∧ PolX W' v0 v1 v2 v3 p (fun k => W.heap.size ≤ k))
theorem ask_who (x : Int) (s : Shp) : (askD x s).1.2.2.2.length ≤ 1000 := by
 have hl : ∀ (n : Nat) (y : Int), n ≤ 1000 → (sortO (· < ·) (whoD s n y).1).length ≤ 1000 := fun n y hn => by
  rw [sortO_tab]
  have := tab_len (whoD s n y).1
  rw [who_len] at this
  omega
 have h2 := belD_range (x := (rolD (belD x 6).2 s).2) (n := 2) (by omega)
 have h3 := belD_range (x := (rolD (belD x 6).2 s).2) (n := 3) (by omega)
 unfold askD
 simp only
 split
 ·exact hl _ _ (by omega)
 ·split
  ·exact hl _ _ (by omega)
  ·split
   ·simp
   ·simp
theorem many_asks (s : Shp) : ∀ (n : Nat) (x : Int), ∀ q ∈ (manyD (fun x => askD x s) n x).1, q.2.2.2.length ≤ 1000
 | 0, x => fun q h => by cases h
 | n + 1, x => fun q h => by
  rcases List.mem_cons.1 h with e | e
  ·rw [e]; exact ask_who x s
  ·exact many_asks s n _ q e
theorem polX_nil (w : World) (P : Nat → Prop) : PolX w (.slice none 0 0) (.slice none 0 0) (.slice none 0 0) (.slice none 0 0) noPol P :=
 ⟨rdX_nil stmE w P, rdX_nil rolE w P, rdX_nil rolE w P, [], rfl, rdX_nil qE w P, fun j q qv h => by cases h⟩
set_option maxRecDepth 100000
set_option maxHeartbeats 12800000
theorem dpol_spec {W : World} {b : Nat} {x : Int} {s : Shp} (h : StB W 67 b x) :
  Calls Tryz.prog 20 #[.pointer (some ⟨b, 0, none⟩), ShpV s] W (PolDr W 67 b (orD s noPol polD x).1 (orD s noPol polD x).2) := by
 have HM : Hid (∀ W : World, Calls Tryz.prog 27 #[.pointer (some ⟨b, 0, none⟩), ShpV s] W fun e W' => e = .returned (.bool (fitsD s)) ∧ Hid (Keeps (fun _ => False) W W')) := fun W => dmay_spec s
 have hbl := lt_of_heap h.1
 have hal := (MapKept.heap_alloc W (.cells #[.int .i64 s.prins, .int .i64 s.links, .int .i64 s.stmts, .int .i64 s.grow, .int .i64 s.shrink, .int .i64 s.asks] 32)).1
 obtain ⟨WA, hWA⟩ : ∃ WA, W.alloc (.cells #[.int .i64 s.prins, .int .i64 s.links, .int .i64 s.stmts, .int .i64 s.grow, .int .i64 s.shrink, .int .i64 s.asks] 32) = WA := ⟨_, rfl⟩
 have hkA : Keeps (fun _ => False) W WA := by rw [← hWA]; exact (Keeps.refl _ _).alloc _
 have hsz : WA.heap.size = W.heap.size + 1 := by rw [← hWA]; simp
 rw [hWA] at hal
 have hal2 := (MapKept.heap_alloc WA (.cells #[.slice none 0 0, .slice none 0 0, .slice none 0 0, .slice none 0 0] 57)).1
 obtain ⟨WB, hWB⟩ : ∃ WB, WA.alloc (.cells #[.slice none 0 0, .slice none 0 0, .slice none 0 0, .slice none 0 0] 57) = WB := ⟨_, rfl⟩
 have hkB : Keeps (fun _ => False) WA WB := by rw [← hWB]; exact (Keeps.refl _ _).alloc _
 rw [hWB] at hal2
 have HS0 : Hid (WB.heap[W.heap.size]? = some (.cells #[.int .i64 s.prins, .int .i64 s.links, .int .i64 s.stmts, .int .i64 s.grow, .int .i64 s.shrink, .int .i64 s.asks] 32)) := (hkB.block _ (lt_of_heap hal) (fun x => x)).trans hal
 have HX0 := Lib.hid hal2
 have HK0 := Lib.hid (hkA.trans hkB)
 have HST0 := Lib.hid (h.keeps HK0.out (fun x => x))
 have HN : Hid (W.heap.size ≠ b ∧ WA.heap.size ≠ b ∧ WA.heap.size ≠ W.heap.size ∧ W.heap.size ≤ WA.heap.size ∧ b < W.heap.size) := ⟨by omega, by omega, by omega, by omega, hbl⟩
 clear hal hal2 hkA hkB hsz hbl h
 cases hf : fitsD s with
 | false =>
  have HE : Hid (orD s noPol polD x = (noPol, x)) := by unfold orD; rw [hf]; exact rfl
  rw [HE.out]
  rw [hf] at HM
  clear hf HE
  unfold ShpV at *
  obtain ⟨Sc0, Sf0, Sc1, Sf1, Sc2, Sf2, Sc3, Sf3, Sc4, Sf4, Sc5, Sf5⟩ := cf6 HS0.out
  obtain ⟨Xc0, Xf0, Xc1, Xf1, Xc2, Xf2, Xc3, Xf3⟩ := cf4 HX0.out
  go_enter Tryz.func20, Tryz.ntmps20
  go_wp2_with fail
  refine (HM.out _).mono ?_
  rintro e w59 ⟨rfl, hk⟩
  have HS60 := Lib.hid (((hk.out).block _ (lt_of_heap HS0.out) (fun x => x)).trans HS0.out)
  have HX61 := Lib.hid (((hk.out).block _ (lt_of_heap HX0.out) (fun x => x)).trans HX0.out)
  have HS62 := Lib.hid (HST0.out.keeps hk.out (fun x => x))
  have HK63 := Lib.hid (HK0.out.trans hk.out)
  clear Sc0 Sf0 Sc1 Sf1 Sc2 Sf2 Sc3 Sf3 Sc4 Sf4 Sc5 Sf5 Xc0 Xf0 Xc1 Xf1 Xc2 Xf2 Xc3 Xf3
  clear hk HS0 HX0 HST0 HK0
  clear HM hWA hWB
  obtain ⟨Sc0, Sf0, Sc1, Sf1, Sc2, Sf2, Sc3, Sf3, Sc4, Sf4, Sc5, Sf5⟩ := cf6 HS60.out
  obtain ⟨Xc0, Xf0, Xc1, Xf1, Xc2, Xf2, Xc3, Xf3⟩ := cf4 HX61.out
  obtain ⟨hs0, hkE⟩ := sx4 HX61.out (.slice none 0 0) (.slice none 0 0) (.slice none 0 0) (.slice none 0 0)
  have HX64 := Lib.hid hs0
  have HS65 := Lib.hid (((hkE).block _ (lt_of_heap HS60.out) (by have := HN.out; show ¬ _ = _; omega)).trans HS60.out)
  have HS66 := Lib.hid (HS62.out.keeps hkE (by have := HN.out; show ¬ _ = _; omega))
  have HK67 := Lib.hid (HK63.out.trans_new hkE (fun q hq e => by have := HN.out; omega))
  clear hkE hs0 HX61 HS60 HS62 HK63
  go_wp2_with fail
  clear Sc0 Sf0 Sc1 Sf1 Sc2 Sf2 Sc3 Sf3 Sc4 Sf4 Sc5 Sf5 Xc0 Xf0 Xc1 Xf1 Xc2 Xf2 Xc3 Xf3
  generalize ((((w59.setCell ⟨WA.heap.size, 0, none⟩ (.slice none 0 0)).setCell ⟨WA.heap.size, 1, none⟩ (.slice none 0 0)).setCell ⟨WA.heap.size, 2, none⟩ (.slice none 0 0)).setCell ⟨WA.heap.size, 3, none⟩ (.slice none 0 0)) = WE at *
  obtain ⟨Xc0, Xf0, Xc1, Xf1, Xc2, Xf2, Xc3, Xf3⟩ := cf4 HX64.out
  refine bodyPost_ret (v := .agg #[.slice none 0 0, .slice none 0 0, .slice none 0 0, .slice none 0 0]) (by simp [results, Tryz.results20, go_sem, *]) rfl ?_
  exact ⟨_, _, _, _, rfl, HS66.out, HK67.out.mono (fun _ _ x => x.elim), polX_nil _ _⟩
 | true =>
  have hsr : 0 ≤ s.stmts ∧ s.stmts ≤ 40 ∧ 0 ≤ s.grow ∧ s.grow ≤ 40 ∧ 0 ≤ s.shrink ∧ s.shrink ≤ 40 ∧ 0 ≤ s.asks ∧ s.asks ≤ 8 := by
   have q := hf
   unfold fitsD at q
   rw [decide_eq_true_eq] at q
   omega
  obtain ⟨hr0, hr1, hr2, hr3, hr4, hr5, hr6, hr7⟩ := hsr
  obtain ⟨n0, ht0⟩ : ∃ n, s.stmts.toNat = n := ⟨_, rfl⟩
  obtain ⟨n1, ht1⟩ : ∃ n, s.grow.toNat = n := ⟨_, rfl⟩
  obtain ⟨n2, ht2⟩ : ∃ n, s.shrink.toNat = n := ⟨_, rfl⟩
  obtain ⟨n3, ht3⟩ : ∃ n, s.asks.toNat = n := ⟨_, rfl⟩
  have hb0 : (n0 : Int) ≤ s.stmts ∧ s.stmts ≤ (n0 : Int) ∧ n0 ≤ 40 := ⟨by omega, by omega, by omega⟩
  have hb1 : (n1 : Int) ≤ s.grow ∧ s.grow ≤ (n1 : Int) ∧ n1 ≤ 40 := ⟨by omega, by omega, by omega⟩
  have hb2 : (n2 : Int) ≤ s.shrink ∧ s.shrink ≤ (n2 : Int) ∧ n2 ≤ 40 := ⟨by omega, by omega, by omega⟩
  have hb3 : (n3 : Int) ≤ s.asks ∧ s.asks ≤ (n3 : Int) ∧ n3 ≤ 8 := ⟨by omega, by omega, by omega⟩
  have HBD := Lib.hid (And.intro hb0 (And.intro hb1 (And.intro hb2 hb3)))
  obtain ⟨⟨l0, x1⟩, e0⟩ : ∃ q, (manyD (fun x => stmD x s) n0 x) = q := ⟨_, rfl⟩
  obtain ⟨⟨l1, x2⟩, e1⟩ : ∃ q, (manyD (fun x => rolD x s) n1 x1) = q := ⟨_, rfl⟩
  obtain ⟨⟨l2, x3⟩, e2⟩ : ∃ q, (manyD (fun x => rolD x s) n2 x2) = q := ⟨_, rfl⟩
  obtain ⟨⟨l3, x4⟩, e3⟩ : ∃ q, (manyD (fun x => askD x s) n3 x3) = q := ⟨_, rfl⟩
  have hn0 : l0.length = n0 := by have q := manyD_len (fun x => stmD x s) n0 x; rw [e0] at q; exact q
  have hn1 : l1.length = n1 := by have q := manyD_len (fun x => rolD x s) n1 x1; rw [e1] at q; exact q
  have hn2 : l2.length = n2 := by have q := manyD_len (fun x => rolD x s) n2 x2; rw [e2] at q; exact q
  have hn3 : l3.length = n3 := by have q := manyD_len (fun x => askD x s) n3 x3; rw [e3] at q; exact q
  have hwho : ∀ q ∈ l3, q.2.2.2.length ≤ 1000 := by have q := many_asks s n3 x3; rw [e3] at q; exact q
  have HFEW : Hid (FewP (l0, l1, l2, l3)) := ⟨by show l0.length ≤ _; omega, by show l1.length ≤ _; omega, by show l2.length ≤ _; omega, by show l3.length ≤ _; omega, hwho⟩
  have HE : Hid (orD s noPol polD x = (normP (l0, l1, l2, l3), x4)) := by
   show _ = _
   unfold orD; rw [if_pos hf]
   unfold polD
   simp only [ht0, ht1, ht2, ht3, e0, e1, e2, e3]
   rfl
  rw [HE.out]
  obtain ⟨np, hnp⟩ : ∃ q, normP (l0, l1, l2, l3) = q := ⟨_, rfl⟩
  have HNRM : Hid (∀ (lo : Nat) (W' : World) (v0 v1 v2 v3 : Value), PolX W' v0 v1 v2 v3 (l0, l1, l2, l3) (fun k => lo ≤ k) → lo ≤ W'.heap.size → Calls Tryz.prog 39 #[.agg #[v0, v1, v2, v3]] W' (PolTo W' np (fun k => lo ≤ k) (fun _ => False))) := fun lo W' v0 v1 v2 v3 h hs => by
   have q := pnorm_spec h (fun k hk => Nat.le_trans hs hk) HFEW.out
   rw [hnp] at q
   exact q
  rw [hnp]
  have HM0 := Lib.hid e0; have HM1 := Lib.hid e1; have HM2 := Lib.hid e2; have HM3 := Lib.hid e3
  have HC0 : Hid (∀ (y : Int) (W : World), StB W 67 b y → Calls Tryz.prog 14 #[.pointer (some ⟨b, 0, none⟩), ShpV s] W (DrTo W 67 b (stmV (stmD y s).1) (stmD y s).2)) := fun y W h => by
   have q := dstmt_spec (s := s) h; unfold orD at q; rw [if_pos hf] at q; exact q
  have HC1 : Hid (∀ (y : Int) (W : World), StB W 67 b y → Calls Tryz.prog 12 #[.pointer (some ⟨b, 0, none⟩), ShpV s] W (DrTo W 67 b (rolV (rolD y s).1) (rolD y s).2)) := fun y W h => by
   have q := drole_spec (s := s) h; unfold orD at q; rw [if_pos hf] at q; exact q
  have HC3 : Hid (∀ (y : Int) (W : World), StB W 67 b y → Calls Tryz.prog 17 #[.pointer (some ⟨b, 0, none⟩), ShpV s] W (AskTo W 67 b (askD y s).1 (askD y s).2)) := fun y W h => by
   have q := dask_spec (s := s) h; unfold orD at q; rw [if_pos hf] at q; exact q
  have HSU0 : Hid (∀ i, (manyD (fun x => stmD x s) (i + 1) x).1 = (manyD (fun x => stmD x s) i x).1 ++ [(stmD (manyD (fun x => stmD x s) i x).2 s).1] ∧ (manyD (fun x => stmD x s) (i + 1) x).2 = (stmD (manyD (fun x => stmD x s) i x).2 s).2) := fun i => manyD_succ (fun x => stmD x s) i x
  have HSU1 : Hid (∀ i, (manyD (fun x => rolD x s) (i + 1) x1).1 = (manyD (fun x => rolD x s) i x1).1 ++ [(rolD (manyD (fun x => rolD x s) i x1).2 s).1] ∧ (manyD (fun x => rolD x s) (i + 1) x1).2 = (rolD (manyD (fun x => rolD x s) i x1).2 s).2) := fun i => manyD_succ (fun x => rolD x s) i x1
  have HSU2 : Hid (∀ i, (manyD (fun x => rolD x s) (i + 1) x2).1 = (manyD (fun x => rolD x s) i x2).1 ++ [(rolD (manyD (fun x => rolD x s) i x2).2 s).1] ∧ (manyD (fun x => rolD x s) (i + 1) x2).2 = (rolD (manyD (fun x => rolD x s) i x2).2 s).2) := fun i => manyD_succ (fun x => rolD x s) i x2
  have HSU3 : Hid (∀ i, (manyD (fun x => askD x s) (i + 1) x3).1 = (manyD (fun x => askD x s) i x3).1 ++ [(askD (manyD (fun x => askD x s) i x3).2 s).1] ∧ (manyD (fun x => askD x s) (i + 1) x3).2 = (askD (manyD (fun x => askD x s) i x3).2 s).2) := fun i => manyD_succ (fun x => askD x s) i x3
  have HLE0 : Hid (∀ i, (manyD (fun x => stmD x s) i x).1.length = i) := fun i => manyD_len (fun x => stmD x s) i x
  have HLE1 : Hid (∀ i, (manyD (fun x => rolD x s) i x1).1.length = i) := fun i => manyD_len (fun x => rolD x s) i x1
  have HLE2 : Hid (∀ i, (manyD (fun x => rolD x s) i x2).1.length = i) := fun i => manyD_len (fun x => rolD x s) i x2
  have HLE3 : Hid (∀ i, (manyD (fun x => askD x s) i x3).1.length = i) := fun i => manyD_len (fun x => askD x s) i x3
  rw [hf] at HM
  clear HE hnp e0 e1 e2 e3 hn0 hn1 hn2 hn3 hwho hf ht0 ht1 ht2 ht3 hb0 hb1 hb2 hb3 hr0 hr1 hr2 hr3 hr4 hr5 hr6 hr7
  unfold ShpV at *
  obtain ⟨Sc0, Sf0, Sc1, Sf1, Sc2, Sf2, Sc3, Sf3, Sc4, Sf4, Sc5, Sf5⟩ := cf6 HS0.out
  obtain ⟨Xc0, Xf0, Xc1, Xf1, Xc2, Xf2, Xc3, Xf3⟩ := cf4 HX0.out
  go_enter Tryz.func20, Tryz.ntmps20
  go_wp2_with fail
  refine (HM.out _).mono ?_
  rintro e w68 ⟨rfl, hk⟩
  have HS69 := Lib.hid (((hk.out).block _ (lt_of_heap HS0.out) (fun x => x)).trans HS0.out)
  have HX70 := Lib.hid (((hk.out).block _ (lt_of_heap HX0.out) (fun x => x)).trans HX0.out)
  have HS71 := Lib.hid (HST0.out.keeps hk.out (fun x => x))
  have HK72 := Lib.hid (HK0.out.trans hk.out)
  clear Sc0 Sf0 Sc1 Sf1 Sc2 Sf2 Sc3 Sf3 Sc4 Sf4 Sc5 Sf5 Xc0 Xf0 Xc1 Xf1 Xc2 Xf2 Xc3 Xf3
  clear hk HS0 HX0 HST0 HK0
  clear HM hWA hWB
  obtain ⟨Sc0, Sf0, Sc1, Sf1, Sc2, Sf2, Sc3, Sf3, Sc4, Sf4, Sc5, Sf5⟩ := cf6 HS69.out
  go_upto_region 4 with fail
  clear Sc0 Sf0 Sc1 Sf1 Sc2 Sf2 Sc3 Sf3 Sc4 Sf4 Sc5 Sf5
  obtain ⟨L0, hL0⟩ : ∃ q, w68.heap.size = q := ⟨_, rfl⟩
  have HN73 : Hid ((W.heap.size ≠ b ∧ WA.heap.size ≠ b ∧ WA.heap.size ≠ W.heap.size ∧ W.heap.size ≤ WA.heap.size ∧ b < W.heap.size) ∧ W.heap.size < L0 ∧ WA.heap.size < L0 ∧ W.heap.size ≤ L0) := ⟨HN.out, by
   have hz := HK72.out.size
   have l0 := lt_of_heap HS69.out
   have l1 := lt_of_heap HX70.out
   refine ⟨?_, ?_, ?_⟩ <;> omega⟩
  clear HN
  have HSL0 : Hid (L0 ≤ w68.heap.size) := by show _ ≤ _; omega
  clear hL0
  go_wp2_with fail
  go_loopg [12] n0 (fun g t wx => ∃ (i : Nat) (ao : Option Addr) (cap : Nat), i ≤ n0 ∧ g = n0 - i ∧ t = .int .i64 i ∧ Hid (StB wx 67 b (manyD (fun x => stmD x s) i x).2 ∧ Keeps (fun q => q = b) W wx ∧ L0 ≤ wx.heap.size ∧ wx.heap[W.heap.size]? = some (.cells #[.int .i64 s.prins, .int .i64 s.links, .int .i64 s.stmts, .int .i64 s.grow, .int .i64 s.shrink, .int .i64 s.asks] 32) ∧ wx.heap[WA.heap.size]? = some (.cells #[.slice ao i cap, .slice none 0 0, .slice none 0 0, .slice none 0 0] 57) ∧ OwnK stmE L0 wx (.slice ao i cap) (manyD (fun x => stmD x s) i x).1))
  case atStart => exact ⟨0, none, 0, Nat.zero_le _, rfl, rfl, HS71.out, HK72.out.mono (fun _ _ x => x.elim), HSL0.out, HS69.out, HX70.out, ownK_nil stmE _ _⟩
  case round =>
   obtain ⟨i, ao, cap, hi, rfl, rfl, HI⟩ := hrel
   clear HS71 HK72 HSL0 HS69 HX70 
   by_cases hlt : i < n0
   ·have hiI : (i : Int) < s.stmts := by have := HBD.out; omega
    have hi100 : i < 100 := by have := HBD.out; omega
    have HT1 := Lib.hid HI.out.1
    have HK1 := Lib.hid HI.out.2.1
    have HSZ := Lib.hid HI.out.2.2.1
    have HBS := Lib.hid HI.out.2.2.2.1
    have HBP := Lib.hid HI.out.2.2.2.2.1
    have HRO := Lib.hid HI.out.2.2.2.2.2
    clear HI
    have hwi : IntKind.i64.wrap ((i : Int) + 1) = (i : Int) + 1 := IntWalk.i64_in _ (by omega)
    obtain ⟨y, hy⟩ : ∃ q, (manyD (fun x => stmD x s) i x).2 = q := ⟨_, rfl⟩
    obtain ⟨ol, hol⟩ : ∃ q, (manyD (fun x => stmD x s) i x).1 = q := ⟨_, rfl⟩
    have HNX : Hid ((manyD (fun x => stmD x s) (i + 1) x).1 = ol ++ [(stmD y s).1] ∧ (manyD (fun x => stmD x s) (i + 1) x).2 = (stmD y s).2 ∧ ol.length = i) := by
     refine ⟨?_, ?_, ?_⟩
     ·rw [(HSU0.out i).1, hol, hy]
     ·rw [(HSU0.out i).2, hy]
     ·rw [← hol]; exact HLE0.out i
    rw [hy] at HT1
    rw [hol] at HRO
    have HCC := Lib.hid (HC0.out y)
    obtain ⟨⟨nn, yq⟩, hnn⟩ : ∃ q, stmD y s = q := ⟨_, rfl⟩
    rw [hnn] at HCC HNX
    clear hnn hy hol
    obtain ⟨⟨nh1, nh2⟩, nk, no, ⟨na1, na2⟩, ⟨nb1, nb2⟩, ni⟩ := nn
    unfold stmV at HCC
    simp only at HCC
    obtain ⟨Sc0, Sf0, Sc1, Sf1, Sc2, Sf2, Sc3, Sf3, Sc4, Sf4, Sc5, Sf5⟩ := cf6 HBS.out
    go_upto_region 5 with fail
    clear Sc0 Sf0 Sc1 Sf1 Sc2 Sf2 Sc3 Sf3 Sc4 Sf4 Sc5 Sf5
    have HMK74 : Hid (∀ w' : World, w'.heap[W.heap.size]? = some (.cells #[.int .i64 s.prins, .int .i64 s.links, .int .i64 s.stmts, .int .i64 s.grow, .int .i64 s.shrink, .int .i64 s.asks] 32) → w'.cell? ⟨W.heap.size, 0, none⟩ = some (.int .i64 s.prins) ∧ w'.cell? ⟨W.heap.size, 1, none⟩ = some (.int .i64 s.links) ∧ w'.cell? ⟨W.heap.size, 2, none⟩ = some (.int .i64 s.stmts) ∧ w'.cell? ⟨W.heap.size, 3, none⟩ = some (.int .i64 s.grow) ∧ w'.cell? ⟨W.heap.size, 4, none⟩ = some (.int .i64 s.shrink) ∧ w'.cell? ⟨W.heap.size, 5, none⟩ = some (.int .i64 s.asks) ∧ Hid (w'.heap[W.heap.size]? = some (.cells #[.int .i64 s.prins, .int .i64 s.links, .int .i64 s.stmts, .int .i64 s.grow, .int .i64 s.shrink, .int .i64 s.asks] 32))) := fun w' h0 => ⟨(by rw [cell_of_heap h0]; rfl), (by rw [cell_of_heap h0]; rfl), (by rw [cell_of_heap h0]; rfl), (by rw [cell_of_heap h0]; rfl), (by rw [cell_of_heap h0]; rfl), (by rw [cell_of_heap h0]; rfl), Lib.hid h0⟩
    have hkd : Keeps (fun _ => False) wr wr.drew := (Keeps.refl _ _).drew
    have HS75 := Lib.hid (((hkd).block _ (lt_of_heap HBS.out) (fun x => x)).trans HBS.out)
    have HX76 := Lib.hid (((hkd).block _ (lt_of_heap HBP.out) (fun x => x)).trans HBP.out)
    have HE77 := Lib.hid (OwnK.keeps HRO.out (hkd) (fun _ _ x => x))
    have HE78 := Lib.hid (Nat.le_trans HSZ.out (hkd).size)
    have HS79 := Lib.hid (HT1.out.keeps hkd (fun x => x))
    have HK80 := Lib.hid (HK1.out.drew)
    have hS0 := HMK74.out wr.drew HS75.out
    clear hkd HBS HBP HRO HSZ HT1 HK1
    refine wp_region_noPanic ?_
    refine wp_region_held_drew (S := (fun w' => w'.cell? ⟨W.heap.size, 0, none⟩ = some (.int .i64 s.prins) ∧ w'.cell? ⟨W.heap.size, 1, none⟩ = some (.int .i64 s.links) ∧ w'.cell? ⟨W.heap.size, 2, none⟩ = some (.int .i64 s.stmts) ∧ w'.cell? ⟨W.heap.size, 3, none⟩ = some (.int .i64 s.grow) ∧ w'.cell? ⟨W.heap.size, 4, none⟩ = some (.int .i64 s.shrink) ∧ w'.cell? ⟨W.heap.size, 5, none⟩ = some (.int .i64 s.asks) ∧ Hid (w'.heap[W.heap.size]? = some (.cells #[.int .i64 s.prins, .int .i64 s.links, .int .i64 s.stmts, .int .i64 s.grow, .int .i64 s.shrink, .int .i64 s.asks] 32)))) (by kernel_rfl) hS0 (fun hHeld => ?_)
    clear hS0
    generalize wr.drew = w81 at *
    refine wpAnyH_take_at (i := 0) (v := ?v0_82) rfl (by kernel_rfl) (by kernel_rfl) (by kernel_rfl) (fun _ _ _ h => h) (Or.inl ⟨by rfl, ?y0_82⟩) hHeld ?r0_82
    case y0_82 => (intro w hSw; (try dsimp only at hSw); go_simp; first | done | with_reducible rfl)
    (try simp only [Act.put, nm1, nm2, nm3])
    refine wpAnyH_take_at (i := 2) (v := ?v2_83) rfl (by kernel_rfl) (by kernel_rfl) (by kernel_rfl) (fun _ _ _ h => h) (Or.inl ⟨by rfl, ?y2_83⟩) hHeld ?r2_83
    case y2_83 => (intro w hSw; (try dsimp only at hSw); go_simp; first | done | with_reducible rfl)
    (try simp only [Act.put, nm1, nm2, nm3])
    refine wpAnyH_take_at (i := 3) (v := ?v3_84) rfl (by kernel_rfl) (by kernel_rfl) (by kernel_rfl) (fun _ _ _ h => h) (Or.inl ⟨by rfl, ?y3_84⟩) hHeld ?r3_84
    case y3_84 => (intro w hSw; (try dsimp only at hSw); go_simp; first | done | with_reducible rfl)
    (try simp only [Act.put, nm1, nm2, nm3])
    refine wpAnyH_two (i := 1) (j := 4) (by kernel_rfl) rfl rfl (fun KK hK => ?p1_85) (fun KK hK => ?p4_85)
    case p1_85 =>
     obtain ⟨Xc0, Xf0, Xc1, Xf1, Xc2, Xf2, Xc3, Xf3⟩ := cf4 HX76.out
     go_simp
     refine hK.out _ _ ?s_86 (fun hHeld => ?_)
     case s_86 => exact HMK74.out _ HS75.out
     clear hK KK
     (try simp only [Act.put, nm1, nm2, nm3])
     clear Xc0 Xf0 Xc1 Xf1 Xc2 Xf2 Xc3 Xf3
     refine wpAnyH_one (i := 4) (by kernel_rfl) rfl (fun KK hK => ?_)
     go_simp
     refine (HCC.out _ HS79.out).mono ?_
     rintro e w87 ⟨rfl, hk⟩
     have HS88 := Lib.hid (((hk.out.2).block _ (lt_of_heap HS75.out) (by have := HN73.out; show ¬ _ = _; omega)).trans HS75.out)
     have HX89 := Lib.hid (((hk.out.2).block _ (lt_of_heap HX76.out) (by have := HN73.out; show ¬ _ = _; omega)).trans HX76.out)
     have HE90 := Lib.hid (OwnK.keeps HE77.out (hk.out.2) (fun q hq e => by have e : q = _ := e; have := HN73.out; omega))
     have HE91 := Lib.hid (Nat.le_trans HE78.out (hk.out.2).size)
     have HS92 := Lib.hid (hk.out.1)
     have HK93 := Lib.hid (HK80.out.trans (hk.out.2))
     clear hk HCC HS75 HX76 HE77 HE78 HS79 HK80
     go_simp
     refine hK.out _ _ ?s_94 (fun hHeld => ?_)
     case s_94 => exact HMK74.out _ HS88.out
     clear hK KK
     (try simp only [Act.put, nm1, nm2, nm3])
     refine wpAnyH_one (i := 5) (by kernel_rfl) rfl (fun KK hK => ?_)
     have hkE : Keeps (fun _ => False) w87 (w87.alloc (.cells #[.int .i64 nk, .string ⟨nh1.toArray⟩, .string ⟨nh2.toArray⟩, .string ⟨no.toArray⟩, .string ⟨na1.toArray⟩, .string ⟨na2.toArray⟩, .string ⟨nb1.toArray⟩, .string ⟨nb2.toArray⟩, .string ⟨ni.toArray⟩] 44)) := (Keeps.refl _ _).alloc _
     have HSR : Hid (RdK stmE (w87.alloc (.cells #[.int .i64 nk, .string ⟨nh1.toArray⟩, .string ⟨nh2.toArray⟩, .string ⟨no.toArray⟩, .string ⟨na1.toArray⟩, .string ⟨na2.toArray⟩, .string ⟨nb1.toArray⟩, .string ⟨nb2.toArray⟩, .string ⟨ni.toArray⟩] 44)) (.slice (some ⟨w87.heap.size, 0, none⟩) 1 1) [((nh1, nh2), nk, no, (na1, na2), (nb1, nb2), ni)]) := (one_srcK stmE w87 ((nh1, nh2), nk, no, (na1, na2), (nb1, nb2), ni) #[.int .i64 nk, .string ⟨nh1.toArray⟩, .string ⟨nh2.toArray⟩, .string ⟨no.toArray⟩, .string ⟨na1.toArray⟩, .string ⟨na2.toArray⟩, .string ⟨nb1.toArray⟩, .string ⟨nb2.toArray⟩, .string ⟨ni.toArray⟩] rfl).1
     have HS95 := Lib.hid (((hkE).block _ (lt_of_heap HS88.out) (fun x => x)).trans HS88.out)
     have HX96 := Lib.hid (((hkE).block _ (lt_of_heap HX89.out) (fun x => x)).trans HX89.out)
     have HE97 := Lib.hid (OwnK.keeps HE90.out (hkE) (fun _ _ x => x))
     have HE98 := Lib.hid (Nat.le_trans HE91.out (hkE).size)
     have HS99 := Lib.hid (HS92.out.keeps hkE (fun x => x))
     have HK100 := Lib.hid (HK93.out.trans (hkE.mono (fun _ _ x => x.elim)))
     go_simp
     refine hK.out _ _ ?s_101 (fun hHeld => ?_)
     case s_101 => exact HMK74.out _ HS95.out
     clear hK KK
     (try simp only [Act.put, nm1, nm2, nm3])
     clear hkE HS88 HX89 HE90 HE91 HS92 HK93
     generalize (w87.alloc (.cells #[.int .i64 nk, .string ⟨nh1.toArray⟩, .string ⟨nh2.toArray⟩, .string ⟨no.toArray⟩, .string ⟨na1.toArray⟩, .string ⟨na2.toArray⟩, .string ⟨nb1.toArray⟩, .string ⟨nb2.toArray⟩, .string ⟨ni.toArray⟩] 44)) = w102 at *
     refine wpAnyH_one (i := 6) (by kernel_rfl) rfl (fun KK hK => ?_)
     refine step_app_fp (E := stmE) rfl (.tmp 15) (.tmp 19) rfl L0 (.slice ao i cap) ol (by simp [Act.eval, Act.put] <;> rfl) HE97.out _ [((nh1, nh2), nk, no, (na1, na2), (nb1, nb2), ni)] (by simp [Act.eval, Act.put] <;> rfl) HSR.out (by simp) (by have := HNX.out.2.2; simp; omega) HE98.out ?_
     intro ao' cap' w103 ho hk hf
     have hln : (ol ++ [((nh1, nh2), nk, no, (na1, na2), (nb1, nb2), ni)]).length = i + 1 := by rw [List.length_append, HNX.out.2.2]; rfl
     rw [hln] at ho hf ⊢
     have kG : Keeps (fun q => L0 ≤ q) w102 w103 := hk.mono (fun q _ e => own_block HE97.out q e)
     have HRN : Hid (OwnK stmE L0 w103 (.slice ao' (i + 1) cap') (ol ++ [((nh1, nh2), nk, no, (na1, na2), (nb1, nb2), ni)])) := ho
     have HS104 := Lib.hid (((kG).block _ (lt_of_heap HS95.out) (by have := HN73.out; show ¬ _ ≤ _; omega)).trans HS95.out)
     have HX105 := Lib.hid (((kG).block _ (lt_of_heap HX96.out) (by have := HN73.out; show ¬ _ ≤ _; omega)).trans HX96.out)
     have HE106 := Lib.hid (Nat.le_trans HE98.out (kG).size)
     have HS107 := Lib.hid (HS99.out.keeps kG (by have := HN73.out; show ¬ _ ≤ _; omega))
     have HK108 := Lib.hid (HK100.out.trans_new kG (fun q hq e => by have := HN73.out; omega))
     refine hK.out _ _ ?s_109 (fun hHeld => ?_)
     case s_109 => exact HMK74.out _ HS104.out
     clear hK KK
     (try simp only [Act.put, nm1, nm2, nm3])
     clear kG ho hk hf hln HS95 HX96 HE98 HE97 HSR HS99 HK100
     refine wpAnyH_one (i := 7) (by kernel_rfl) rfl (fun KK hK => ?_)
     go_simp
     refine hK.out _ _ ?s_110 (fun hHeld => ?_)
     case s_110 => exact HMK74.out _ HS104.out
     clear hK KK
     (try simp only [Act.put, nm1, nm2, nm3])
     refine wpAnyH_one (i := 8) (by kernel_rfl) rfl (fun KK hK => ?_)
     obtain ⟨Xc0, Xf0, Xc1, Xf1, Xc2, Xf2, Xc3, Xf3⟩ := cf4 HX105.out
     have hs0 : (w103.setCell ⟨WA.heap.size, 0, none⟩ (.slice ao' (i + 1) cap')).heap[WA.heap.size]? = some (.cells #[.slice ao' (i + 1) cap', .slice none 0 0, .slice none 0 0, .slice none 0 0] 57) := heap_set HX105.out 0 (.slice ao' (i + 1) cap')
     have hkE : Keeps (fun q => q = WA.heap.size) w103 (w103.setCell ⟨WA.heap.size, 0, none⟩ (.slice ao' (i + 1) cap')) := Keeps.setCell (S := fun q => q = WA.heap.size) (Keeps.refl _ _) (p := ⟨WA.heap.size, 0, none⟩) (fun _ => rfl) _
     have HX111 := Lib.hid hs0
     have HS112 := Lib.hid (((hkE).block _ (lt_of_heap HS104.out) (by have := HN73.out; show ¬ _ = _; omega)).trans HS104.out)
     have HE113 := Lib.hid (Nat.le_trans HE106.out (hkE).size)
     have HE114 := Lib.hid (OwnK.keeps HRN.out (hkE) (fun q hq e => by have e : q = _ := e; have := HN73.out; omega))
     have HS115 := Lib.hid (HS107.out.keeps hkE (by have := HN73.out; show ¬ _ = _; omega))
     have HK116 := Lib.hid (HK108.out.trans_new hkE (fun q hq e => by have := HN73.out; omega))
     go_simp
     refine hK.out _ _ ?s_117 (fun hHeld => ?_)
     case s_117 => exact HMK74.out _ HS112.out
     clear hK KK
     (try simp only [Act.put, nm1, nm2, nm3])
     clear hkE hs0  HX105 HS104 HE106 HRN HS107 HK108
     clear Xc0 Xf0 Xc1 Xf1 Xc2 Xf2 Xc3 Xf3
     generalize (w103.setCell ⟨WA.heap.size, 0, none⟩ (.slice ao' (i + 1) cap')) = w118 at *
     refine wpAnyH_done (by kernel_rfl) ?_ _
     refine NoPanic.normal ?_
     clear hHeld HMK74
     have HN2 : Hid (StB w118 67 b (manyD (fun x => stmD x s) (i + 1) x).2 ∧ Keeps (fun q => q = b) W w118 ∧ L0 ≤ w118.heap.size ∧ w118.heap[W.heap.size]? = some (.cells #[.int .i64 s.prins, .int .i64 s.links, .int .i64 s.stmts, .int .i64 s.grow, .int .i64 s.shrink, .int .i64 s.asks] 32) ∧ w118.heap[WA.heap.size]? = some (.cells #[.slice ao' (i + 1) cap', .slice none 0 0, .slice none 0 0, .slice none 0 0] 57) ∧ OwnK stmE L0 w118 (.slice ao' (i + 1) cap') (manyD (fun x => stmD x s) (i + 1) x).1) := by rw [HNX.out.1, HNX.out.2.1]; exact ⟨HS115.out, HK116.out, HE113.out, HS112.out, HX111.out, HE114.out⟩
     clear HS115 HK116 HE113 HE114 HS112 HX111 
     go_wp2_with fail
     go_roundg (n0 - (i + 1))
     case measure => omega
     case rel => exact ⟨i + 1, ao', cap', by omega, rfl, by go_num, HN2⟩
    case p4_85 =>
     go_simp
     refine (HCC.out _ HS79.out).mono ?_
     rintro e w119 ⟨rfl, hk⟩
     have HS120 := Lib.hid (((hk.out.2).block _ (lt_of_heap HS75.out) (by have := HN73.out; show ¬ _ = _; omega)).trans HS75.out)
     have HX121 := Lib.hid (((hk.out.2).block _ (lt_of_heap HX76.out) (by have := HN73.out; show ¬ _ = _; omega)).trans HX76.out)
     have HE122 := Lib.hid (OwnK.keeps HE77.out (hk.out.2) (fun q hq e => by have e : q = _ := e; have := HN73.out; omega))
     have HE123 := Lib.hid (Nat.le_trans HE78.out (hk.out.2).size)
     have HS124 := Lib.hid (hk.out.1)
     have HK125 := Lib.hid (HK80.out.trans (hk.out.2))
     clear hk HCC HS75 HX76 HE77 HE78 HS79 HK80
     go_simp
     refine hK.out _ _ ?s_126 (fun hHeld => ?_)
     case s_126 => exact HMK74.out _ HS120.out
     clear hK KK
     (try simp only [Act.put, nm1, nm2, nm3])
     refine wpAnyH_two (i := 1) (j := 5) (by kernel_rfl) rfl rfl (fun KK hK => ?p1_127) (fun KK hK => ?p5_127)
     case p1_127 =>
      obtain ⟨Xc0, Xf0, Xc1, Xf1, Xc2, Xf2, Xc3, Xf3⟩ := cf4 HX121.out
      go_simp
      refine hK.out _ _ ?s_128 (fun hHeld => ?_)
      case s_128 => exact HMK74.out _ HS120.out
      clear hK KK
      (try simp only [Act.put, nm1, nm2, nm3])
      clear Xc0 Xf0 Xc1 Xf1 Xc2 Xf2 Xc3 Xf3
      refine wpAnyH_one (i := 5) (by kernel_rfl) rfl (fun KK hK => ?_)
      have hkE : Keeps (fun _ => False) w119 (w119.alloc (.cells #[.int .i64 nk, .string ⟨nh1.toArray⟩, .string ⟨nh2.toArray⟩, .string ⟨no.toArray⟩, .string ⟨na1.toArray⟩, .string ⟨na2.toArray⟩, .string ⟨nb1.toArray⟩, .string ⟨nb2.toArray⟩, .string ⟨ni.toArray⟩] 44)) := (Keeps.refl _ _).alloc _
      have HSR : Hid (RdK stmE (w119.alloc (.cells #[.int .i64 nk, .string ⟨nh1.toArray⟩, .string ⟨nh2.toArray⟩, .string ⟨no.toArray⟩, .string ⟨na1.toArray⟩, .string ⟨na2.toArray⟩, .string ⟨nb1.toArray⟩, .string ⟨nb2.toArray⟩, .string ⟨ni.toArray⟩] 44)) (.slice (some ⟨w119.heap.size, 0, none⟩) 1 1) [((nh1, nh2), nk, no, (na1, na2), (nb1, nb2), ni)]) := (one_srcK stmE w119 ((nh1, nh2), nk, no, (na1, na2), (nb1, nb2), ni) #[.int .i64 nk, .string ⟨nh1.toArray⟩, .string ⟨nh2.toArray⟩, .string ⟨no.toArray⟩, .string ⟨na1.toArray⟩, .string ⟨na2.toArray⟩, .string ⟨nb1.toArray⟩, .string ⟨nb2.toArray⟩, .string ⟨ni.toArray⟩] rfl).1
      have HS129 := Lib.hid (((hkE).block _ (lt_of_heap HS120.out) (fun x => x)).trans HS120.out)
      have HX130 := Lib.hid (((hkE).block _ (lt_of_heap HX121.out) (fun x => x)).trans HX121.out)
      have HE131 := Lib.hid (OwnK.keeps HE122.out (hkE) (fun _ _ x => x))
      have HE132 := Lib.hid (Nat.le_trans HE123.out (hkE).size)
      have HS133 := Lib.hid (HS124.out.keeps hkE (fun x => x))
      have HK134 := Lib.hid (HK125.out.trans (hkE.mono (fun _ _ x => x.elim)))
      go_simp
      refine hK.out _ _ ?s_135 (fun hHeld => ?_)
      case s_135 => exact HMK74.out _ HS129.out
      clear hK KK
      (try simp only [Act.put, nm1, nm2, nm3])
      clear hkE HS120 HX121 HE122 HE123 HS124 HK125
      generalize (w119.alloc (.cells #[.int .i64 nk, .string ⟨nh1.toArray⟩, .string ⟨nh2.toArray⟩, .string ⟨no.toArray⟩, .string ⟨na1.toArray⟩, .string ⟨na2.toArray⟩, .string ⟨nb1.toArray⟩, .string ⟨nb2.toArray⟩, .string ⟨ni.toArray⟩] 44)) = w136 at *
      refine wpAnyH_one (i := 6) (by kernel_rfl) rfl (fun KK hK => ?_)
      refine step_app_fp (E := stmE) rfl (.tmp 15) (.tmp 19) rfl L0 (.slice ao i cap) ol (by simp [Act.eval, Act.put] <;> rfl) HE131.out _ [((nh1, nh2), nk, no, (na1, na2), (nb1, nb2), ni)] (by simp [Act.eval, Act.put] <;> rfl) HSR.out (by simp) (by have := HNX.out.2.2; simp; omega) HE132.out ?_
      intro ao' cap' w137 ho hk hf
      have hln : (ol ++ [((nh1, nh2), nk, no, (na1, na2), (nb1, nb2), ni)]).length = i + 1 := by rw [List.length_append, HNX.out.2.2]; rfl
      rw [hln] at ho hf ⊢
      have kG : Keeps (fun q => L0 ≤ q) w136 w137 := hk.mono (fun q _ e => own_block HE131.out q e)
      have HRN : Hid (OwnK stmE L0 w137 (.slice ao' (i + 1) cap') (ol ++ [((nh1, nh2), nk, no, (na1, na2), (nb1, nb2), ni)])) := ho
      have HS138 := Lib.hid (((kG).block _ (lt_of_heap HS129.out) (by have := HN73.out; show ¬ _ ≤ _; omega)).trans HS129.out)
      have HX139 := Lib.hid (((kG).block _ (lt_of_heap HX130.out) (by have := HN73.out; show ¬ _ ≤ _; omega)).trans HX130.out)
      have HE140 := Lib.hid (Nat.le_trans HE132.out (kG).size)
      have HS141 := Lib.hid (HS133.out.keeps kG (by have := HN73.out; show ¬ _ ≤ _; omega))
      have HK142 := Lib.hid (HK134.out.trans_new kG (fun q hq e => by have := HN73.out; omega))
      refine hK.out _ _ ?s_143 (fun hHeld => ?_)
      case s_143 => exact HMK74.out _ HS138.out
      clear hK KK
      (try simp only [Act.put, nm1, nm2, nm3])
      clear kG ho hk hf hln HS129 HX130 HE132 HE131 HSR HS133 HK134
      refine wpAnyH_one (i := 7) (by kernel_rfl) rfl (fun KK hK => ?_)
      go_simp
      refine hK.out _ _ ?s_144 (fun hHeld => ?_)
      case s_144 => exact HMK74.out _ HS138.out
      clear hK KK
      (try simp only [Act.put, nm1, nm2, nm3])
      refine wpAnyH_one (i := 8) (by kernel_rfl) rfl (fun KK hK => ?_)
      obtain ⟨Xc0, Xf0, Xc1, Xf1, Xc2, Xf2, Xc3, Xf3⟩ := cf4 HX139.out
      have hs0 : (w137.setCell ⟨WA.heap.size, 0, none⟩ (.slice ao' (i + 1) cap')).heap[WA.heap.size]? = some (.cells #[.slice ao' (i + 1) cap', .slice none 0 0, .slice none 0 0, .slice none 0 0] 57) := heap_set HX139.out 0 (.slice ao' (i + 1) cap')
      have hkE : Keeps (fun q => q = WA.heap.size) w137 (w137.setCell ⟨WA.heap.size, 0, none⟩ (.slice ao' (i + 1) cap')) := Keeps.setCell (S := fun q => q = WA.heap.size) (Keeps.refl _ _) (p := ⟨WA.heap.size, 0, none⟩) (fun _ => rfl) _
      have HX145 := Lib.hid hs0
      have HS146 := Lib.hid (((hkE).block _ (lt_of_heap HS138.out) (by have := HN73.out; show ¬ _ = _; omega)).trans HS138.out)
      have HE147 := Lib.hid (Nat.le_trans HE140.out (hkE).size)
      have HE148 := Lib.hid (OwnK.keeps HRN.out (hkE) (fun q hq e => by have e : q = _ := e; have := HN73.out; omega))
      have HS149 := Lib.hid (HS141.out.keeps hkE (by have := HN73.out; show ¬ _ = _; omega))
      have HK150 := Lib.hid (HK142.out.trans_new hkE (fun q hq e => by have := HN73.out; omega))
      go_simp
      refine hK.out _ _ ?s_151 (fun hHeld => ?_)
      case s_151 => exact HMK74.out _ HS146.out
      clear hK KK
      (try simp only [Act.put, nm1, nm2, nm3])
      clear hkE hs0  HX139 HS138 HE140 HRN HS141 HK142
      clear Xc0 Xf0 Xc1 Xf1 Xc2 Xf2 Xc3 Xf3
      generalize (w137.setCell ⟨WA.heap.size, 0, none⟩ (.slice ao' (i + 1) cap')) = w152 at *
      refine wpAnyH_done (by kernel_rfl) ?_ _
      refine NoPanic.normal ?_
      clear hHeld HMK74
      have HN2 : Hid (StB w152 67 b (manyD (fun x => stmD x s) (i + 1) x).2 ∧ Keeps (fun q => q = b) W w152 ∧ L0 ≤ w152.heap.size ∧ w152.heap[W.heap.size]? = some (.cells #[.int .i64 s.prins, .int .i64 s.links, .int .i64 s.stmts, .int .i64 s.grow, .int .i64 s.shrink, .int .i64 s.asks] 32) ∧ w152.heap[WA.heap.size]? = some (.cells #[.slice ao' (i + 1) cap', .slice none 0 0, .slice none 0 0, .slice none 0 0] 57) ∧ OwnK stmE L0 w152 (.slice ao' (i + 1) cap') (manyD (fun x => stmD x s) (i + 1) x).1) := by rw [HNX.out.1, HNX.out.2.1]; exact ⟨HS149.out, HK150.out, HE147.out, HS146.out, HX145.out, HE148.out⟩
      clear HS149 HK150 HE147 HE148 HS146 HX145 
      go_wp2_with fail
      go_roundg (n0 - (i + 1))
      case measure => omega
      case rel => exact ⟨i + 1, ao', cap', by omega, rfl, by go_num, HN2⟩
     case p5_127 =>
      have hkE : Keeps (fun _ => False) w119 (w119.alloc (.cells #[.int .i64 nk, .string ⟨nh1.toArray⟩, .string ⟨nh2.toArray⟩, .string ⟨no.toArray⟩, .string ⟨na1.toArray⟩, .string ⟨na2.toArray⟩, .string ⟨nb1.toArray⟩, .string ⟨nb2.toArray⟩, .string ⟨ni.toArray⟩] 44)) := (Keeps.refl _ _).alloc _
      have HSR : Hid (RdK stmE (w119.alloc (.cells #[.int .i64 nk, .string ⟨nh1.toArray⟩, .string ⟨nh2.toArray⟩, .string ⟨no.toArray⟩, .string ⟨na1.toArray⟩, .string ⟨na2.toArray⟩, .string ⟨nb1.toArray⟩, .string ⟨nb2.toArray⟩, .string ⟨ni.toArray⟩] 44)) (.slice (some ⟨w119.heap.size, 0, none⟩) 1 1) [((nh1, nh2), nk, no, (na1, na2), (nb1, nb2), ni)]) := (one_srcK stmE w119 ((nh1, nh2), nk, no, (na1, na2), (nb1, nb2), ni) #[.int .i64 nk, .string ⟨nh1.toArray⟩, .string ⟨nh2.toArray⟩, .string ⟨no.toArray⟩, .string ⟨na1.toArray⟩, .string ⟨na2.toArray⟩, .string ⟨nb1.toArray⟩, .string ⟨nb2.toArray⟩, .string ⟨ni.toArray⟩] rfl).1
      have HS153 := Lib.hid (((hkE).block _ (lt_of_heap HS120.out) (fun x => x)).trans HS120.out)
      have HX154 := Lib.hid (((hkE).block _ (lt_of_heap HX121.out) (fun x => x)).trans HX121.out)
      have HE155 := Lib.hid (OwnK.keeps HE122.out (hkE) (fun _ _ x => x))
      have HE156 := Lib.hid (Nat.le_trans HE123.out (hkE).size)
      have HS157 := Lib.hid (HS124.out.keeps hkE (fun x => x))
      have HK158 := Lib.hid (HK125.out.trans (hkE.mono (fun _ _ x => x.elim)))
      go_simp
      refine hK.out _ _ ?s_159 (fun hHeld => ?_)
      case s_159 => exact HMK74.out _ HS153.out
      clear hK KK
      (try simp only [Act.put, nm1, nm2, nm3])
      clear hkE HS120 HX121 HE122 HE123 HS124 HK125
      generalize (w119.alloc (.cells #[.int .i64 nk, .string ⟨nh1.toArray⟩, .string ⟨nh2.toArray⟩, .string ⟨no.toArray⟩, .string ⟨na1.toArray⟩, .string ⟨na2.toArray⟩, .string ⟨nb1.toArray⟩, .string ⟨nb2.toArray⟩, .string ⟨ni.toArray⟩] 44)) = w160 at *
      refine wpAnyH_one (i := 1) (by kernel_rfl) rfl (fun KK hK => ?_)
      obtain ⟨Xc0, Xf0, Xc1, Xf1, Xc2, Xf2, Xc3, Xf3⟩ := cf4 HX154.out
      go_simp
      refine hK.out _ _ ?s_161 (fun hHeld => ?_)
      case s_161 => exact HMK74.out _ HS153.out
      clear hK KK
      (try simp only [Act.put, nm1, nm2, nm3])
      clear Xc0 Xf0 Xc1 Xf1 Xc2 Xf2 Xc3 Xf3
      refine wpAnyH_one (i := 6) (by kernel_rfl) rfl (fun KK hK => ?_)
      refine step_app_fp (E := stmE) rfl (.tmp 15) (.tmp 19) rfl L0 (.slice ao i cap) ol (by simp [Act.eval, Act.put] <;> rfl) HE155.out _ [((nh1, nh2), nk, no, (na1, na2), (nb1, nb2), ni)] (by simp [Act.eval, Act.put] <;> rfl) HSR.out (by simp) (by have := HNX.out.2.2; simp; omega) HE156.out ?_
      intro ao' cap' w162 ho hk hf
      have hln : (ol ++ [((nh1, nh2), nk, no, (na1, na2), (nb1, nb2), ni)]).length = i + 1 := by rw [List.length_append, HNX.out.2.2]; rfl
      rw [hln] at ho hf ⊢
      have kG : Keeps (fun q => L0 ≤ q) w160 w162 := hk.mono (fun q _ e => own_block HE155.out q e)
      have HRN : Hid (OwnK stmE L0 w162 (.slice ao' (i + 1) cap') (ol ++ [((nh1, nh2), nk, no, (na1, na2), (nb1, nb2), ni)])) := ho
      have HS163 := Lib.hid (((kG).block _ (lt_of_heap HS153.out) (by have := HN73.out; show ¬ _ ≤ _; omega)).trans HS153.out)
      have HX164 := Lib.hid (((kG).block _ (lt_of_heap HX154.out) (by have := HN73.out; show ¬ _ ≤ _; omega)).trans HX154.out)
      have HE165 := Lib.hid (Nat.le_trans HE156.out (kG).size)
      have HS166 := Lib.hid (HS157.out.keeps kG (by have := HN73.out; show ¬ _ ≤ _; omega))
      have HK167 := Lib.hid (HK158.out.trans_new kG (fun q hq e => by have := HN73.out; omega))
      refine hK.out _ _ ?s_168 (fun hHeld => ?_)
      case s_168 => exact HMK74.out _ HS163.out
      clear hK KK
      (try simp only [Act.put, nm1, nm2, nm3])
      clear kG ho hk hf hln HS153 HX154 HE156 HE155 HSR HS157 HK158
      refine wpAnyH_one (i := 7) (by kernel_rfl) rfl (fun KK hK => ?_)
      go_simp
      refine hK.out _ _ ?s_169 (fun hHeld => ?_)
      case s_169 => exact HMK74.out _ HS163.out
      clear hK KK
      (try simp only [Act.put, nm1, nm2, nm3])
      refine wpAnyH_one (i := 8) (by kernel_rfl) rfl (fun KK hK => ?_)
      obtain ⟨Xc0, Xf0, Xc1, Xf1, Xc2, Xf2, Xc3, Xf3⟩ := cf4 HX164.out
      have hs0 : (w162.setCell ⟨WA.heap.size, 0, none⟩ (.slice ao' (i + 1) cap')).heap[WA.heap.size]? = some (.cells #[.slice ao' (i + 1) cap', .slice none 0 0, .slice none 0 0, .slice none 0 0] 57) := heap_set HX164.out 0 (.slice ao' (i + 1) cap')
      have hkE : Keeps (fun q => q = WA.heap.size) w162 (w162.setCell ⟨WA.heap.size, 0, none⟩ (.slice ao' (i + 1) cap')) := Keeps.setCell (S := fun q => q = WA.heap.size) (Keeps.refl _ _) (p := ⟨WA.heap.size, 0, none⟩) (fun _ => rfl) _
      have HX170 := Lib.hid hs0
      have HS171 := Lib.hid (((hkE).block _ (lt_of_heap HS163.out) (by have := HN73.out; show ¬ _ = _; omega)).trans HS163.out)
      have HE172 := Lib.hid (Nat.le_trans HE165.out (hkE).size)
      have HE173 := Lib.hid (OwnK.keeps HRN.out (hkE) (fun q hq e => by have e : q = _ := e; have := HN73.out; omega))
      have HS174 := Lib.hid (HS166.out.keeps hkE (by have := HN73.out; show ¬ _ = _; omega))
      have HK175 := Lib.hid (HK167.out.trans_new hkE (fun q hq e => by have := HN73.out; omega))
      go_simp
      refine hK.out _ _ ?s_176 (fun hHeld => ?_)
      case s_176 => exact HMK74.out _ HS171.out
      clear hK KK
      (try simp only [Act.put, nm1, nm2, nm3])
      clear hkE hs0  HX164 HS163 HE165 HRN HS166 HK167
      clear Xc0 Xf0 Xc1 Xf1 Xc2 Xf2 Xc3 Xf3
      generalize (w162.setCell ⟨WA.heap.size, 0, none⟩ (.slice ao' (i + 1) cap')) = w177 at *
      refine wpAnyH_done (by kernel_rfl) ?_ _
      refine NoPanic.normal ?_
      clear hHeld HMK74
      have HN2 : Hid (StB w177 67 b (manyD (fun x => stmD x s) (i + 1) x).2 ∧ Keeps (fun q => q = b) W w177 ∧ L0 ≤ w177.heap.size ∧ w177.heap[W.heap.size]? = some (.cells #[.int .i64 s.prins, .int .i64 s.links, .int .i64 s.stmts, .int .i64 s.grow, .int .i64 s.shrink, .int .i64 s.asks] 32) ∧ w177.heap[WA.heap.size]? = some (.cells #[.slice ao' (i + 1) cap', .slice none 0 0, .slice none 0 0, .slice none 0 0] 57) ∧ OwnK stmE L0 w177 (.slice ao' (i + 1) cap') (manyD (fun x => stmD x s) (i + 1) x).1) := by rw [HNX.out.1, HNX.out.2.1]; exact ⟨HS174.out, HK175.out, HE172.out, HS171.out, HX170.out, HE173.out⟩
      clear HS174 HK175 HE172 HE173 HS171 HX170 
      go_wp2_with fail
      go_roundg (n0 - (i + 1))
      case measure => omega
      case rel => exact ⟨i + 1, ao', cap', by omega, rfl, by go_num, HN2⟩
   ·obtain rfl : n0 = i := by omega
    have hiI : ¬ (n0 : Int) < s.stmts := by have := HBD.out; omega
    have HT1 := Lib.hid HI.out.1
    have HK1 := Lib.hid HI.out.2.1
    have HSZ := Lib.hid HI.out.2.2.1
    have HBS := Lib.hid HI.out.2.2.2.1
    have HBP := Lib.hid HI.out.2.2.2.2.1
    have HRO := Lib.hid HI.out.2.2.2.2.2
    clear HI
    rw [HM0.out] at HT1 HRO
    have HROW0 : Hid (RdX stmE wr (.slice ao n0 cap) l0 (fun k => L0 ≤ k)) := HRO.out.rdX (fun k hk _ => hk)
    clear HRO HM0 HSU0 HLE0 HC0
    skip
    generalize ao = ao0 at *
    generalize cap = cp0 at *
    generalize wr = wl0 at *
    obtain ⟨Sc0, Sf0, Sc1, Sf1, Sc2, Sf2, Sc3, Sf3, Sc4, Sf4, Sc5, Sf5⟩ := cf6 HBS.out
    go_upto_region 8 with fail
    clear Sc0 Sf0 Sc1 Sf1 Sc2 Sf2 Sc3 Sf3 Sc4 Sf4 Sc5 Sf5
    obtain ⟨L1, hL1⟩ : ∃ q, wl0.heap.size = q := ⟨_, rfl⟩
    have HE178 : Hid (RdX stmE wl0 (.slice ao0 n0 cp0) l0 (fun k => L0 ≤ k ∧ k < L1)) := HROW0.out.into (Keeps.refl (fun _ => False) _) (fun _ _ _ x => x) (fun q hq hp => by have hp : L0 ≤ q := hp; have := hL1; show L0 ≤ q ∧ q < L1; first | omega | (obtain ⟨hp1, hp2⟩ := hp; refine ⟨hp1, ?_⟩; omega) | (refine ⟨hp, ?_⟩; omega))
    clear HROW0
    have HN179 : Hid (((W.heap.size ≠ b ∧ WA.heap.size ≠ b ∧ WA.heap.size ≠ W.heap.size ∧ W.heap.size ≤ WA.heap.size ∧ b < W.heap.size) ∧ W.heap.size < L0 ∧ WA.heap.size < L0 ∧ W.heap.size ≤ L0) ∧ W.heap.size < L1 ∧ WA.heap.size < L1 ∧ W.heap.size ≤ L1 ∧ L0 ≤ L1) := ⟨HN73.out, by
     have hz := HK1.out.size
     have l0 := lt_of_heap HBS.out
     have l1 := lt_of_heap HBP.out
     have ll := HSZ.out
     refine ⟨?_, ?_, ?_, ?_⟩ <;> omega⟩
    clear HN73
    have HSL1 : Hid (L1 ≤ wl0.heap.size) := by show _ ≤ _; omega
    clear hL1 HSZ
    go_wp2_with fail
    go_loopg [25] n1 (fun g t wx => ∃ (i : Nat) (ao : Option Addr) (cap : Nat), i ≤ n1 ∧ g = n1 - i ∧ t = .int .i64 i ∧ Hid (StB wx 67 b (manyD (fun x => rolD x s) i x1).2 ∧ Keeps (fun q => q = b) W wx ∧ L1 ≤ wx.heap.size ∧ wx.heap[W.heap.size]? = some (.cells #[.int .i64 s.prins, .int .i64 s.links, .int .i64 s.stmts, .int .i64 s.grow, .int .i64 s.shrink, .int .i64 s.asks] 32) ∧ wx.heap[WA.heap.size]? = some (.cells #[.slice ao0 n0 cp0, .slice ao i cap, .slice none 0 0, .slice none 0 0] 57) ∧ RdX stmE wx (.slice ao0 n0 cp0) l0 (fun k => L0 ≤ k ∧ k < L1) ∧ OwnK rolE L1 wx (.slice ao i cap) (manyD (fun x => rolD x s) i x1).1))
    case atStart => exact ⟨0, none, 0, Nat.zero_le _, rfl, rfl, HT1.out, HK1.out, HSL1.out, HBS.out, HBP.out, HE178.out, ownK_nil rolE _ _⟩
    case round =>
     obtain ⟨i, ao, cap, hi, rfl, rfl, HI⟩ := hrel
     clear HT1 HK1 HSL1 HBS HBP HE178
     by_cases hlt : i < n1
     ·have hiI : (i : Int) < s.grow := by have := HBD.out; omega
      have hi100 : i < 100 := by have := HBD.out; omega
      have HT1 := Lib.hid HI.out.1
      have HK1 := Lib.hid HI.out.2.1
      have HSZ := Lib.hid HI.out.2.2.1
      have HBS := Lib.hid HI.out.2.2.2.1
      have HBP := Lib.hid HI.out.2.2.2.2.1
      have HEX0 := Lib.hid HI.out.2.2.2.2.2.1
      have HRO := Lib.hid HI.out.2.2.2.2.2.2
      clear HI
      have hwi : IntKind.i64.wrap ((i : Int) + 1) = (i : Int) + 1 := IntWalk.i64_in _ (by omega)
      obtain ⟨y, hy⟩ : ∃ q, (manyD (fun x => rolD x s) i x1).2 = q := ⟨_, rfl⟩
      obtain ⟨ol, hol⟩ : ∃ q, (manyD (fun x => rolD x s) i x1).1 = q := ⟨_, rfl⟩
      have HNX : Hid ((manyD (fun x => rolD x s) (i + 1) x1).1 = ol ++ [(rolD y s).1] ∧ (manyD (fun x => rolD x s) (i + 1) x1).2 = (rolD y s).2 ∧ ol.length = i) := by
       refine ⟨?_, ?_, ?_⟩
       ·rw [(HSU1.out i).1, hol, hy]
       ·rw [(HSU1.out i).2, hy]
       ·rw [← hol]; exact HLE1.out i
      rw [hy] at HT1
      rw [hol] at HRO
      have HCC := Lib.hid (HC1.out y)
      obtain ⟨⟨nn, yq⟩, hnn⟩ : ∃ q, rolD y s = q := ⟨_, rfl⟩
      rw [hnn] at HCC HNX
      clear hnn hy hol
      obtain ⟨rr1, rr2⟩ := nn
      unfold rolV encStr8 at HCC
      simp only at HCC
      obtain ⟨Sc0, Sf0, Sc1, Sf1, Sc2, Sf2, Sc3, Sf3, Sc4, Sf4, Sc5, Sf5⟩ := cf6 HBS.out
      go_upto_region 9 with fail
      clear Sc0 Sf0 Sc1 Sf1 Sc2 Sf2 Sc3 Sf3 Sc4 Sf4 Sc5 Sf5
      have HMK180 : Hid (∀ w' : World, w'.heap[W.heap.size]? = some (.cells #[.int .i64 s.prins, .int .i64 s.links, .int .i64 s.stmts, .int .i64 s.grow, .int .i64 s.shrink, .int .i64 s.asks] 32) → w'.cell? ⟨W.heap.size, 0, none⟩ = some (.int .i64 s.prins) ∧ w'.cell? ⟨W.heap.size, 1, none⟩ = some (.int .i64 s.links) ∧ w'.cell? ⟨W.heap.size, 2, none⟩ = some (.int .i64 s.stmts) ∧ w'.cell? ⟨W.heap.size, 3, none⟩ = some (.int .i64 s.grow) ∧ w'.cell? ⟨W.heap.size, 4, none⟩ = some (.int .i64 s.shrink) ∧ w'.cell? ⟨W.heap.size, 5, none⟩ = some (.int .i64 s.asks) ∧ Hid (w'.heap[W.heap.size]? = some (.cells #[.int .i64 s.prins, .int .i64 s.links, .int .i64 s.stmts, .int .i64 s.grow, .int .i64 s.shrink, .int .i64 s.asks] 32))) := fun w' h0 => ⟨(by rw [cell_of_heap h0]; rfl), (by rw [cell_of_heap h0]; rfl), (by rw [cell_of_heap h0]; rfl), (by rw [cell_of_heap h0]; rfl), (by rw [cell_of_heap h0]; rfl), (by rw [cell_of_heap h0]; rfl), Lib.hid h0⟩
      have hkd : Keeps (fun _ => False) wr wr.drew := (Keeps.refl _ _).drew
      have HS181 := Lib.hid (((hkd).block _ (lt_of_heap HBS.out) (fun x => x)).trans HBS.out)
      have HX182 := Lib.hid (((hkd).block _ (lt_of_heap HBP.out) (fun x => x)).trans HBP.out)
      have HE183 := Lib.hid (RdX.keeps HEX0.out (hkd) (fun _ _ _ x => x))
      have HE184 := Lib.hid (OwnK.keeps HRO.out (hkd) (fun _ _ x => x))
      have HE185 := Lib.hid (Nat.le_trans HSZ.out (hkd).size)
      have HS186 := Lib.hid (HT1.out.keeps hkd (fun x => x))
      have HK187 := Lib.hid (HK1.out.drew)
      have hS0 := HMK180.out wr.drew HS181.out
      clear hkd HBS HBP HEX0 HRO HSZ HT1 HK1
      refine wp_region_noPanic ?_
      refine wp_region_held_drew (S := (fun w' => w'.cell? ⟨W.heap.size, 0, none⟩ = some (.int .i64 s.prins) ∧ w'.cell? ⟨W.heap.size, 1, none⟩ = some (.int .i64 s.links) ∧ w'.cell? ⟨W.heap.size, 2, none⟩ = some (.int .i64 s.stmts) ∧ w'.cell? ⟨W.heap.size, 3, none⟩ = some (.int .i64 s.grow) ∧ w'.cell? ⟨W.heap.size, 4, none⟩ = some (.int .i64 s.shrink) ∧ w'.cell? ⟨W.heap.size, 5, none⟩ = some (.int .i64 s.asks) ∧ Hid (w'.heap[W.heap.size]? = some (.cells #[.int .i64 s.prins, .int .i64 s.links, .int .i64 s.stmts, .int .i64 s.grow, .int .i64 s.shrink, .int .i64 s.asks] 32)))) (by kernel_rfl) hS0 (fun hHeld => ?_)
      clear hS0
      generalize wr.drew = w188 at *
      refine wpAnyH_take_at (i := 0) (v := ?v0_189) rfl (by kernel_rfl) (by kernel_rfl) (by kernel_rfl) (fun _ _ _ h => h) (Or.inl ⟨by rfl, ?y0_189⟩) hHeld ?r0_189
      case y0_189 => (intro w hSw; (try dsimp only at hSw); go_simp; first | done | with_reducible rfl)
      (try simp only [Act.put, nm1, nm2, nm3])
      refine wpAnyH_take_at (i := 2) (v := ?v2_190) rfl (by kernel_rfl) (by kernel_rfl) (by kernel_rfl) (fun _ _ _ h => h) (Or.inl ⟨by rfl, ?y2_190⟩) hHeld ?r2_190
      case y2_190 => (intro w hSw; (try dsimp only at hSw); go_simp; first | done | with_reducible rfl)
      (try simp only [Act.put, nm1, nm2, nm3])
      refine wpAnyH_take_at (i := 3) (v := ?v3_191) rfl (by kernel_rfl) (by kernel_rfl) (by kernel_rfl) (fun _ _ _ h => h) (Or.inl ⟨by rfl, ?y3_191⟩) hHeld ?r3_191
      case y3_191 => (intro w hSw; (try dsimp only at hSw); go_simp; first | done | with_reducible rfl)
      (try simp only [Act.put, nm1, nm2, nm3])
      refine wpAnyH_two (i := 1) (j := 4) (by kernel_rfl) rfl rfl (fun KK hK => ?p1_192) (fun KK hK => ?p4_192)
      case p1_192 =>
       obtain ⟨Xc0, Xf0, Xc1, Xf1, Xc2, Xf2, Xc3, Xf3⟩ := cf4 HX182.out
       go_simp
       refine hK.out _ _ ?s_193 (fun hHeld => ?_)
       case s_193 => exact HMK180.out _ HS181.out
       clear hK KK
       (try simp only [Act.put, nm1, nm2, nm3])
       clear Xc0 Xf0 Xc1 Xf1 Xc2 Xf2 Xc3 Xf3
       refine wpAnyH_one (i := 4) (by kernel_rfl) rfl (fun KK hK => ?_)
       go_simp
       refine (HCC.out _ HS186.out).mono ?_
       rintro e w194 ⟨rfl, hk⟩
       have HS195 := Lib.hid (((hk.out.2).block _ (lt_of_heap HS181.out) (by have := HN179.out; show ¬ _ = _; omega)).trans HS181.out)
       have HX196 := Lib.hid (((hk.out.2).block _ (lt_of_heap HX182.out) (by have := HN179.out; show ¬ _ = _; omega)).trans HX182.out)
       have HE197 := Lib.hid (RdX.keeps HE183.out (hk.out.2) (fun q hq hp e => by have hp : L0 ≤ q ∧ q < L1 := hp; have e : q = _ := e; have := HN179.out; omega))
       have HE198 := Lib.hid (OwnK.keeps HE184.out (hk.out.2) (fun q hq e => by have e : q = _ := e; have := HN179.out; omega))
       have HE199 := Lib.hid (Nat.le_trans HE185.out (hk.out.2).size)
       have HS200 := Lib.hid (hk.out.1)
       have HK201 := Lib.hid (HK187.out.trans (hk.out.2))
       clear hk HCC HS181 HX182 HE183 HE184 HE185 HS186 HK187
       go_simp
       refine hK.out _ _ ?s_202 (fun hHeld => ?_)
       case s_202 => exact HMK180.out _ HS195.out
       clear hK KK
       (try simp only [Act.put, nm1, nm2, nm3])
       refine wpAnyH_one (i := 5) (by kernel_rfl) rfl (fun KK hK => ?_)
       have hkE : Keeps (fun _ => False) w194 (w194.alloc (.cells #[.string ⟨rr1.toArray⟩, .string ⟨rr2.toArray⟩] 40)) := (Keeps.refl _ _).alloc _
       have HSR : Hid (RdK rolE (w194.alloc (.cells #[.string ⟨rr1.toArray⟩, .string ⟨rr2.toArray⟩] 40)) (.slice (some ⟨w194.heap.size, 0, none⟩) 1 1) [(rr1, rr2)]) := (one_srcK rolE w194 (rr1, rr2) #[.string ⟨rr1.toArray⟩, .string ⟨rr2.toArray⟩] rfl).1
       have HS203 := Lib.hid (((hkE).block _ (lt_of_heap HS195.out) (fun x => x)).trans HS195.out)
       have HX204 := Lib.hid (((hkE).block _ (lt_of_heap HX196.out) (fun x => x)).trans HX196.out)
       have HE205 := Lib.hid (RdX.keeps HE197.out (hkE) (fun _ _ _ x => x))
       have HE206 := Lib.hid (OwnK.keeps HE198.out (hkE) (fun _ _ x => x))
       have HE207 := Lib.hid (Nat.le_trans HE199.out (hkE).size)
       have HS208 := Lib.hid (HS200.out.keeps hkE (fun x => x))
       have HK209 := Lib.hid (HK201.out.trans (hkE.mono (fun _ _ x => x.elim)))
       go_simp
       refine hK.out _ _ ?s_210 (fun hHeld => ?_)
       case s_210 => exact HMK180.out _ HS203.out
       clear hK KK
       (try simp only [Act.put, nm1, nm2, nm3])
       clear hkE HS195 HX196 HE197 HE198 HE199 HS200 HK201
       generalize (w194.alloc (.cells #[.string ⟨rr1.toArray⟩, .string ⟨rr2.toArray⟩] 40)) = w211 at *
       refine wpAnyH_one (i := 6) (by kernel_rfl) rfl (fun KK hK => ?_)
       refine step_app_fp (E := rolE) rfl (.tmp 28) (.tmp 32) rfl L1 (.slice ao i cap) ol (by simp [Act.eval, Act.put] <;> rfl) HE206.out _ [(rr1, rr2)] (by simp [Act.eval, Act.put] <;> rfl) HSR.out (by simp) (by have := HNX.out.2.2; simp; omega) HE207.out ?_
       intro ao' cap' w212 ho hk hf
       have hln : (ol ++ [(rr1, rr2)]).length = i + 1 := by rw [List.length_append, HNX.out.2.2]; rfl
       rw [hln] at ho hf ⊢
       have kG : Keeps (fun q => L1 ≤ q) w211 w212 := hk.mono (fun q _ e => own_block HE206.out q e)
       have HRN : Hid (OwnK rolE L1 w212 (.slice ao' (i + 1) cap') (ol ++ [(rr1, rr2)])) := ho
       have HS213 := Lib.hid (((kG).block _ (lt_of_heap HS203.out) (by have := HN179.out; show ¬ _ ≤ _; omega)).trans HS203.out)
       have HX214 := Lib.hid (((kG).block _ (lt_of_heap HX204.out) (by have := HN179.out; show ¬ _ ≤ _; omega)).trans HX204.out)
       have HE215 := Lib.hid (RdX.keeps HE205.out (kG) (fun q hq hp e => by have hp : L0 ≤ q ∧ q < L1 := hp; have e : L1 ≤ q := e; have := HN179.out; omega))
       have HE216 := Lib.hid (Nat.le_trans HE207.out (kG).size)
       have HS217 := Lib.hid (HS208.out.keeps kG (by have := HN179.out; show ¬ _ ≤ _; omega))
       have HK218 := Lib.hid (HK209.out.trans_new kG (fun q hq e => by have := HN179.out; omega))
       refine hK.out _ _ ?s_219 (fun hHeld => ?_)
       case s_219 => exact HMK180.out _ HS213.out
       clear hK KK
       (try simp only [Act.put, nm1, nm2, nm3])
       clear kG ho hk hf hln HS203 HX204 HE205 HE207 HE206 HSR HS208 HK209
       refine wpAnyH_one (i := 7) (by kernel_rfl) rfl (fun KK hK => ?_)
       go_simp
       refine hK.out _ _ ?s_220 (fun hHeld => ?_)
       case s_220 => exact HMK180.out _ HS213.out
       clear hK KK
       (try simp only [Act.put, nm1, nm2, nm3])
       refine wpAnyH_one (i := 8) (by kernel_rfl) rfl (fun KK hK => ?_)
       obtain ⟨Xc0, Xf0, Xc1, Xf1, Xc2, Xf2, Xc3, Xf3⟩ := cf4 HX214.out
       have hs0 : (w212.setCell ⟨WA.heap.size, 1, none⟩ (.slice ao' (i + 1) cap')).heap[WA.heap.size]? = some (.cells #[.slice ao0 n0 cp0, .slice ao' (i + 1) cap', .slice none 0 0, .slice none 0 0] 57) := heap_set HX214.out 1 (.slice ao' (i + 1) cap')
       have hkE : Keeps (fun q => q = WA.heap.size) w212 (w212.setCell ⟨WA.heap.size, 1, none⟩ (.slice ao' (i + 1) cap')) := Keeps.setCell (S := fun q => q = WA.heap.size) (Keeps.refl _ _) (p := ⟨WA.heap.size, 1, none⟩) (fun _ => rfl) _
       have HX221 := Lib.hid hs0
       have HS222 := Lib.hid (((hkE).block _ (lt_of_heap HS213.out) (by have := HN179.out; show ¬ _ = _; omega)).trans HS213.out)
       have HE223 := Lib.hid (RdX.keeps HE215.out (hkE) (fun q hq hp e => by have hp : L0 ≤ q ∧ q < L1 := hp; have e : q = _ := e; have := HN179.out; omega))
       have HE224 := Lib.hid (Nat.le_trans HE216.out (hkE).size)
       have HE225 := Lib.hid (OwnK.keeps HRN.out (hkE) (fun q hq e => by have e : q = _ := e; have := HN179.out; omega))
       have HS226 := Lib.hid (HS217.out.keeps hkE (by have := HN179.out; show ¬ _ = _; omega))
       have HK227 := Lib.hid (HK218.out.trans_new hkE (fun q hq e => by have := HN179.out; omega))
       go_simp
       refine hK.out _ _ ?s_228 (fun hHeld => ?_)
       case s_228 => exact HMK180.out _ HS222.out
       clear hK KK
       (try simp only [Act.put, nm1, nm2, nm3])
       clear hkE hs0  HX214 HS213 HE215 HE216 HRN HS217 HK218
       clear Xc0 Xf0 Xc1 Xf1 Xc2 Xf2 Xc3 Xf3
       generalize (w212.setCell ⟨WA.heap.size, 1, none⟩ (.slice ao' (i + 1) cap')) = w229 at *
       refine wpAnyH_done (by kernel_rfl) ?_ _
       refine NoPanic.normal ?_
       clear hHeld HMK180
       have HN2 : Hid (StB w229 67 b (manyD (fun x => rolD x s) (i + 1) x1).2 ∧ Keeps (fun q => q = b) W w229 ∧ L1 ≤ w229.heap.size ∧ w229.heap[W.heap.size]? = some (.cells #[.int .i64 s.prins, .int .i64 s.links, .int .i64 s.stmts, .int .i64 s.grow, .int .i64 s.shrink, .int .i64 s.asks] 32) ∧ w229.heap[WA.heap.size]? = some (.cells #[.slice ao0 n0 cp0, .slice ao' (i + 1) cap', .slice none 0 0, .slice none 0 0] 57) ∧ RdX stmE w229 (.slice ao0 n0 cp0) l0 (fun k => L0 ≤ k ∧ k < L1) ∧ OwnK rolE L1 w229 (.slice ao' (i + 1) cap') (manyD (fun x => rolD x s) (i + 1) x1).1) := by rw [HNX.out.1, HNX.out.2.1]; exact ⟨HS226.out, HK227.out, HE224.out, HS222.out, HX221.out, HE223.out, HE225.out⟩
       clear HS226 HK227 HE224 HE225 HS222 HX221 HE223
       go_wp2_with fail
       go_roundg (n1 - (i + 1))
       case measure => omega
       case rel => exact ⟨i + 1, ao', cap', by omega, rfl, by go_num, HN2⟩
      case p4_192 =>
       go_simp
       refine (HCC.out _ HS186.out).mono ?_
       rintro e w230 ⟨rfl, hk⟩
       have HS231 := Lib.hid (((hk.out.2).block _ (lt_of_heap HS181.out) (by have := HN179.out; show ¬ _ = _; omega)).trans HS181.out)
       have HX232 := Lib.hid (((hk.out.2).block _ (lt_of_heap HX182.out) (by have := HN179.out; show ¬ _ = _; omega)).trans HX182.out)
       have HE233 := Lib.hid (RdX.keeps HE183.out (hk.out.2) (fun q hq hp e => by have hp : L0 ≤ q ∧ q < L1 := hp; have e : q = _ := e; have := HN179.out; omega))
       have HE234 := Lib.hid (OwnK.keeps HE184.out (hk.out.2) (fun q hq e => by have e : q = _ := e; have := HN179.out; omega))
       have HE235 := Lib.hid (Nat.le_trans HE185.out (hk.out.2).size)
       have HS236 := Lib.hid (hk.out.1)
       have HK237 := Lib.hid (HK187.out.trans (hk.out.2))
       clear hk HCC HS181 HX182 HE183 HE184 HE185 HS186 HK187
       go_simp
       refine hK.out _ _ ?s_238 (fun hHeld => ?_)
       case s_238 => exact HMK180.out _ HS231.out
       clear hK KK
       (try simp only [Act.put, nm1, nm2, nm3])
       refine wpAnyH_two (i := 1) (j := 5) (by kernel_rfl) rfl rfl (fun KK hK => ?p1_239) (fun KK hK => ?p5_239)
       case p1_239 =>
        obtain ⟨Xc0, Xf0, Xc1, Xf1, Xc2, Xf2, Xc3, Xf3⟩ := cf4 HX232.out
        go_simp
        refine hK.out _ _ ?s_240 (fun hHeld => ?_)
        case s_240 => exact HMK180.out _ HS231.out
        clear hK KK
        (try simp only [Act.put, nm1, nm2, nm3])
        clear Xc0 Xf0 Xc1 Xf1 Xc2 Xf2 Xc3 Xf3
        refine wpAnyH_one (i := 5) (by kernel_rfl) rfl (fun KK hK => ?_)
        have hkE : Keeps (fun _ => False) w230 (w230.alloc (.cells #[.string ⟨rr1.toArray⟩, .string ⟨rr2.toArray⟩] 40)) := (Keeps.refl _ _).alloc _
        have HSR : Hid (RdK rolE (w230.alloc (.cells #[.string ⟨rr1.toArray⟩, .string ⟨rr2.toArray⟩] 40)) (.slice (some ⟨w230.heap.size, 0, none⟩) 1 1) [(rr1, rr2)]) := (one_srcK rolE w230 (rr1, rr2) #[.string ⟨rr1.toArray⟩, .string ⟨rr2.toArray⟩] rfl).1
        have HS241 := Lib.hid (((hkE).block _ (lt_of_heap HS231.out) (fun x => x)).trans HS231.out)
        have HX242 := Lib.hid (((hkE).block _ (lt_of_heap HX232.out) (fun x => x)).trans HX232.out)
        have HE243 := Lib.hid (RdX.keeps HE233.out (hkE) (fun _ _ _ x => x))
        have HE244 := Lib.hid (OwnK.keeps HE234.out (hkE) (fun _ _ x => x))
        have HE245 := Lib.hid (Nat.le_trans HE235.out (hkE).size)
        have HS246 := Lib.hid (HS236.out.keeps hkE (fun x => x))
        have HK247 := Lib.hid (HK237.out.trans (hkE.mono (fun _ _ x => x.elim)))
        go_simp
        refine hK.out _ _ ?s_248 (fun hHeld => ?_)
        case s_248 => exact HMK180.out _ HS241.out
        clear hK KK
        (try simp only [Act.put, nm1, nm2, nm3])
        clear hkE HS231 HX232 HE233 HE234 HE235 HS236 HK237
        generalize (w230.alloc (.cells #[.string ⟨rr1.toArray⟩, .string ⟨rr2.toArray⟩] 40)) = w249 at *
        refine wpAnyH_one (i := 6) (by kernel_rfl) rfl (fun KK hK => ?_)
        refine step_app_fp (E := rolE) rfl (.tmp 28) (.tmp 32) rfl L1 (.slice ao i cap) ol (by simp [Act.eval, Act.put] <;> rfl) HE244.out _ [(rr1, rr2)] (by simp [Act.eval, Act.put] <;> rfl) HSR.out (by simp) (by have := HNX.out.2.2; simp; omega) HE245.out ?_
        intro ao' cap' w250 ho hk hf
        have hln : (ol ++ [(rr1, rr2)]).length = i + 1 := by rw [List.length_append, HNX.out.2.2]; rfl
        rw [hln] at ho hf ⊢
        have kG : Keeps (fun q => L1 ≤ q) w249 w250 := hk.mono (fun q _ e => own_block HE244.out q e)
        have HRN : Hid (OwnK rolE L1 w250 (.slice ao' (i + 1) cap') (ol ++ [(rr1, rr2)])) := ho
        have HS251 := Lib.hid (((kG).block _ (lt_of_heap HS241.out) (by have := HN179.out; show ¬ _ ≤ _; omega)).trans HS241.out)
        have HX252 := Lib.hid (((kG).block _ (lt_of_heap HX242.out) (by have := HN179.out; show ¬ _ ≤ _; omega)).trans HX242.out)
        have HE253 := Lib.hid (RdX.keeps HE243.out (kG) (fun q hq hp e => by have hp : L0 ≤ q ∧ q < L1 := hp; have e : L1 ≤ q := e; have := HN179.out; omega))
        have HE254 := Lib.hid (Nat.le_trans HE245.out (kG).size)
        have HS255 := Lib.hid (HS246.out.keeps kG (by have := HN179.out; show ¬ _ ≤ _; omega))
        have HK256 := Lib.hid (HK247.out.trans_new kG (fun q hq e => by have := HN179.out; omega))
        refine hK.out _ _ ?s_257 (fun hHeld => ?_)
        case s_257 => exact HMK180.out _ HS251.out
        clear hK KK
        (try simp only [Act.put, nm1, nm2, nm3])
        clear kG ho hk hf hln HS241 HX242 HE243 HE245 HE244 HSR HS246 HK247
        refine wpAnyH_one (i := 7) (by kernel_rfl) rfl (fun KK hK => ?_)
        go_simp
        refine hK.out _ _ ?s_258 (fun hHeld => ?_)
        case s_258 => exact HMK180.out _ HS251.out
        clear hK KK
        (try simp only [Act.put, nm1, nm2, nm3])
        refine wpAnyH_one (i := 8) (by kernel_rfl) rfl (fun KK hK => ?_)
        obtain ⟨Xc0, Xf0, Xc1, Xf1, Xc2, Xf2, Xc3, Xf3⟩ := cf4 HX252.out
        have hs0 : (w250.setCell ⟨WA.heap.size, 1, none⟩ (.slice ao' (i + 1) cap')).heap[WA.heap.size]? = some (.cells #[.slice ao0 n0 cp0, .slice ao' (i + 1) cap', .slice none 0 0, .slice none 0 0] 57) := heap_set HX252.out 1 (.slice ao' (i + 1) cap')
        have hkE : Keeps (fun q => q = WA.heap.size) w250 (w250.setCell ⟨WA.heap.size, 1, none⟩ (.slice ao' (i + 1) cap')) := Keeps.setCell (S := fun q => q = WA.heap.size) (Keeps.refl _ _) (p := ⟨WA.heap.size, 1, none⟩) (fun _ => rfl) _
        have HX259 := Lib.hid hs0
        have HS260 := Lib.hid (((hkE).block _ (lt_of_heap HS251.out) (by have := HN179.out; show ¬ _ = _; omega)).trans HS251.out)
        have HE261 := Lib.hid (RdX.keeps HE253.out (hkE) (fun q hq hp e => by have hp : L0 ≤ q ∧ q < L1 := hp; have e : q = _ := e; have := HN179.out; omega))
        have HE262 := Lib.hid (Nat.le_trans HE254.out (hkE).size)
        have HE263 := Lib.hid (OwnK.keeps HRN.out (hkE) (fun q hq e => by have e : q = _ := e; have := HN179.out; omega))
        have HS264 := Lib.hid (HS255.out.keeps hkE (by have := HN179.out; show ¬ _ = _; omega))
        have HK265 := Lib.hid (HK256.out.trans_new hkE (fun q hq e => by have := HN179.out; omega))
        go_simp
        refine hK.out _ _ ?s_266 (fun hHeld => ?_)
        case s_266 => exact HMK180.out _ HS260.out
        clear hK KK
        (try simp only [Act.put, nm1, nm2, nm3])
        clear hkE hs0  HX252 HS251 HE253 HE254 HRN HS255 HK256
        clear Xc0 Xf0 Xc1 Xf1 Xc2 Xf2 Xc3 Xf3
        generalize (w250.setCell ⟨WA.heap.size, 1, none⟩ (.slice ao' (i + 1) cap')) = w267 at *
        refine wpAnyH_done (by kernel_rfl) ?_ _
        refine NoPanic.normal ?_
        clear hHeld HMK180
        have HN2 : Hid (StB w267 67 b (manyD (fun x => rolD x s) (i + 1) x1).2 ∧ Keeps (fun q => q = b) W w267 ∧ L1 ≤ w267.heap.size ∧ w267.heap[W.heap.size]? = some (.cells #[.int .i64 s.prins, .int .i64 s.links, .int .i64 s.stmts, .int .i64 s.grow, .int .i64 s.shrink, .int .i64 s.asks] 32) ∧ w267.heap[WA.heap.size]? = some (.cells #[.slice ao0 n0 cp0, .slice ao' (i + 1) cap', .slice none 0 0, .slice none 0 0] 57) ∧ RdX stmE w267 (.slice ao0 n0 cp0) l0 (fun k => L0 ≤ k ∧ k < L1) ∧ OwnK rolE L1 w267 (.slice ao' (i + 1) cap') (manyD (fun x => rolD x s) (i + 1) x1).1) := by rw [HNX.out.1, HNX.out.2.1]; exact ⟨HS264.out, HK265.out, HE262.out, HS260.out, HX259.out, HE261.out, HE263.out⟩
        clear HS264 HK265 HE262 HE263 HS260 HX259 HE261
        go_wp2_with fail
        go_roundg (n1 - (i + 1))
        case measure => omega
        case rel => exact ⟨i + 1, ao', cap', by omega, rfl, by go_num, HN2⟩
       case p5_239 =>
        have hkE : Keeps (fun _ => False) w230 (w230.alloc (.cells #[.string ⟨rr1.toArray⟩, .string ⟨rr2.toArray⟩] 40)) := (Keeps.refl _ _).alloc _
        have HSR : Hid (RdK rolE (w230.alloc (.cells #[.string ⟨rr1.toArray⟩, .string ⟨rr2.toArray⟩] 40)) (.slice (some ⟨w230.heap.size, 0, none⟩) 1 1) [(rr1, rr2)]) := (one_srcK rolE w230 (rr1, rr2) #[.string ⟨rr1.toArray⟩, .string ⟨rr2.toArray⟩] rfl).1
        have HS268 := Lib.hid (((hkE).block _ (lt_of_heap HS231.out) (fun x => x)).trans HS231.out)
        have HX269 := Lib.hid (((hkE).block _ (lt_of_heap HX232.out) (fun x => x)).trans HX232.out)
        have HE270 := Lib.hid (RdX.keeps HE233.out (hkE) (fun _ _ _ x => x))
        have HE271 := Lib.hid (OwnK.keeps HE234.out (hkE) (fun _ _ x => x))
        have HE272 := Lib.hid (Nat.le_trans HE235.out (hkE).size)
        have HS273 := Lib.hid (HS236.out.keeps hkE (fun x => x))
        have HK274 := Lib.hid (HK237.out.trans (hkE.mono (fun _ _ x => x.elim)))
        go_simp
        refine hK.out _ _ ?s_275 (fun hHeld => ?_)
        case s_275 => exact HMK180.out _ HS268.out
        clear hK KK
        (try simp only [Act.put, nm1, nm2, nm3])
        clear hkE HS231 HX232 HE233 HE234 HE235 HS236 HK237
        generalize (w230.alloc (.cells #[.string ⟨rr1.toArray⟩, .string ⟨rr2.toArray⟩] 40)) = w276 at *
        refine wpAnyH_one (i := 1) (by kernel_rfl) rfl (fun KK hK => ?_)
        obtain ⟨Xc0, Xf0, Xc1, Xf1, Xc2, Xf2, Xc3, Xf3⟩ := cf4 HX269.out
        go_simp
        refine hK.out _ _ ?s_277 (fun hHeld => ?_)
        case s_277 => exact HMK180.out _ HS268.out
        clear hK KK
        (try simp only [Act.put, nm1, nm2, nm3])
        clear Xc0 Xf0 Xc1 Xf1 Xc2 Xf2 Xc3 Xf3
        refine wpAnyH_one (i := 6) (by kernel_rfl) rfl (fun KK hK => ?_)
        refine step_app_fp (E := rolE) rfl (.tmp 28) (.tmp 32) rfl L1 (.slice ao i cap) ol (by simp [Act.eval, Act.put] <;> rfl) HE271.out _ [(rr1, rr2)] (by simp [Act.eval, Act.put] <;> rfl) HSR.out (by simp) (by have := HNX.out.2.2; simp; omega) HE272.out ?_
        intro ao' cap' w278 ho hk hf
        have hln : (ol ++ [(rr1, rr2)]).length = i + 1 := by rw [List.length_append, HNX.out.2.2]; rfl
        rw [hln] at ho hf ⊢
        have kG : Keeps (fun q => L1 ≤ q) w276 w278 := hk.mono (fun q _ e => own_block HE271.out q e)
        have HRN : Hid (OwnK rolE L1 w278 (.slice ao' (i + 1) cap') (ol ++ [(rr1, rr2)])) := ho
        have HS279 := Lib.hid (((kG).block _ (lt_of_heap HS268.out) (by have := HN179.out; show ¬ _ ≤ _; omega)).trans HS268.out)
        have HX280 := Lib.hid (((kG).block _ (lt_of_heap HX269.out) (by have := HN179.out; show ¬ _ ≤ _; omega)).trans HX269.out)
        have HE281 := Lib.hid (RdX.keeps HE270.out (kG) (fun q hq hp e => by have hp : L0 ≤ q ∧ q < L1 := hp; have e : L1 ≤ q := e; have := HN179.out; omega))
        have HE282 := Lib.hid (Nat.le_trans HE272.out (kG).size)
        have HS283 := Lib.hid (HS273.out.keeps kG (by have := HN179.out; show ¬ _ ≤ _; omega))
        have HK284 := Lib.hid (HK274.out.trans_new kG (fun q hq e => by have := HN179.out; omega))
        refine hK.out _ _ ?s_285 (fun hHeld => ?_)
        case s_285 => exact HMK180.out _ HS279.out
        clear hK KK
        (try simp only [Act.put, nm1, nm2, nm3])
        clear kG ho hk hf hln HS268 HX269 HE270 HE272 HE271 HSR HS273 HK274
        refine wpAnyH_one (i := 7) (by kernel_rfl) rfl (fun KK hK => ?_)
        go_simp
        refine hK.out _ _ ?s_286 (fun hHeld => ?_)
        case s_286 => exact HMK180.out _ HS279.out
        clear hK KK
        (try simp only [Act.put, nm1, nm2, nm3])
        refine wpAnyH_one (i := 8) (by kernel_rfl) rfl (fun KK hK => ?_)
        obtain ⟨Xc0, Xf0, Xc1, Xf1, Xc2, Xf2, Xc3, Xf3⟩ := cf4 HX280.out
        have hs0 : (w278.setCell ⟨WA.heap.size, 1, none⟩ (.slice ao' (i + 1) cap')).heap[WA.heap.size]? = some (.cells #[.slice ao0 n0 cp0, .slice ao' (i + 1) cap', .slice none 0 0, .slice none 0 0] 57) := heap_set HX280.out 1 (.slice ao' (i + 1) cap')
        have hkE : Keeps (fun q => q = WA.heap.size) w278 (w278.setCell ⟨WA.heap.size, 1, none⟩ (.slice ao' (i + 1) cap')) := Keeps.setCell (S := fun q => q = WA.heap.size) (Keeps.refl _ _) (p := ⟨WA.heap.size, 1, none⟩) (fun _ => rfl) _
        have HX287 := Lib.hid hs0
        have HS288 := Lib.hid (((hkE).block _ (lt_of_heap HS279.out) (by have := HN179.out; show ¬ _ = _; omega)).trans HS279.out)
        have HE289 := Lib.hid (RdX.keeps HE281.out (hkE) (fun q hq hp e => by have hp : L0 ≤ q ∧ q < L1 := hp; have e : q = _ := e; have := HN179.out; omega))
        have HE290 := Lib.hid (Nat.le_trans HE282.out (hkE).size)
        have HE291 := Lib.hid (OwnK.keeps HRN.out (hkE) (fun q hq e => by have e : q = _ := e; have := HN179.out; omega))
        have HS292 := Lib.hid (HS283.out.keeps hkE (by have := HN179.out; show ¬ _ = _; omega))
        have HK293 := Lib.hid (HK284.out.trans_new hkE (fun q hq e => by have := HN179.out; omega))
        go_simp
        refine hK.out _ _ ?s_294 (fun hHeld => ?_)
        case s_294 => exact HMK180.out _ HS288.out
        clear hK KK
        (try simp only [Act.put, nm1, nm2, nm3])
        clear hkE hs0  HX280 HS279 HE281 HE282 HRN HS283 HK284
        clear Xc0 Xf0 Xc1 Xf1 Xc2 Xf2 Xc3 Xf3
        generalize (w278.setCell ⟨WA.heap.size, 1, none⟩ (.slice ao' (i + 1) cap')) = w295 at *
        refine wpAnyH_done (by kernel_rfl) ?_ _
        refine NoPanic.normal ?_
        clear hHeld HMK180
        have HN2 : Hid (StB w295 67 b (manyD (fun x => rolD x s) (i + 1) x1).2 ∧ Keeps (fun q => q = b) W w295 ∧ L1 ≤ w295.heap.size ∧ w295.heap[W.heap.size]? = some (.cells #[.int .i64 s.prins, .int .i64 s.links, .int .i64 s.stmts, .int .i64 s.grow, .int .i64 s.shrink, .int .i64 s.asks] 32) ∧ w295.heap[WA.heap.size]? = some (.cells #[.slice ao0 n0 cp0, .slice ao' (i + 1) cap', .slice none 0 0, .slice none 0 0] 57) ∧ RdX stmE w295 (.slice ao0 n0 cp0) l0 (fun k => L0 ≤ k ∧ k < L1) ∧ OwnK rolE L1 w295 (.slice ao' (i + 1) cap') (manyD (fun x => rolD x s) (i + 1) x1).1) := by rw [HNX.out.1, HNX.out.2.1]; exact ⟨HS292.out, HK293.out, HE290.out, HS288.out, HX287.out, HE289.out, HE291.out⟩
        clear HS292 HK293 HE290 HE291 HS288 HX287 HE289
        go_wp2_with fail
        go_roundg (n1 - (i + 1))
        case measure => omega
        case rel => exact ⟨i + 1, ao', cap', by omega, rfl, by go_num, HN2⟩
     ·obtain rfl : n1 = i := by omega
      have hiI : ¬ (n1 : Int) < s.grow := by have := HBD.out; omega
      have HT1 := Lib.hid HI.out.1
      have HK1 := Lib.hid HI.out.2.1
      have HSZ := Lib.hid HI.out.2.2.1
      have HBS := Lib.hid HI.out.2.2.2.1
      have HBP := Lib.hid HI.out.2.2.2.2.1
      have HEX0 := Lib.hid HI.out.2.2.2.2.2.1
      have HRO := Lib.hid HI.out.2.2.2.2.2.2
      clear HI
      rw [HM1.out] at HT1 HRO
      have HROW1 : Hid (RdX rolE wr (.slice ao n1 cap) l1 (fun k => L1 ≤ k)) := HRO.out.rdX (fun k hk _ => hk)
      clear HRO HM1 HSU1 HLE1 
      skip
      generalize ao = ao1 at *
      generalize cap = cp1 at *
      generalize wr = wl1 at *
      obtain ⟨Sc0, Sf0, Sc1, Sf1, Sc2, Sf2, Sc3, Sf3, Sc4, Sf4, Sc5, Sf5⟩ := cf6 HBS.out
      go_upto_region 12 with fail
      clear Sc0 Sf0 Sc1 Sf1 Sc2 Sf2 Sc3 Sf3 Sc4 Sf4 Sc5 Sf5
      obtain ⟨L2, hL2⟩ : ∃ q, wl1.heap.size = q := ⟨_, rfl⟩
      have HE296 : Hid (RdX stmE wl1 (.slice ao0 n0 cp0) l0 (fun k => L0 ≤ k ∧ k < L1 ∧ k < L2)) := HEX0.out.into (Keeps.refl (fun _ => False) _) (fun _ _ _ x => x) (fun q hq hp => by have hp : L0 ≤ q ∧ q < L1 := hp; have := hL2; show L0 ≤ q ∧ q < L1 ∧ q < L2; first | omega | (obtain ⟨hp1, hp2⟩ := hp; refine ⟨hp1, ?_⟩; omega) | (refine ⟨hp, ?_⟩; omega))
      clear HEX0
      have HE297 : Hid (RdX rolE wl1 (.slice ao1 n1 cp1) l1 (fun k => L1 ≤ k ∧ k < L2)) := HROW1.out.into (Keeps.refl (fun _ => False) _) (fun _ _ _ x => x) (fun q hq hp => by have hp : L1 ≤ q := hp; have := hL2; show L1 ≤ q ∧ q < L2; first | omega | (obtain ⟨hp1, hp2⟩ := hp; refine ⟨hp1, ?_⟩; omega) | (refine ⟨hp, ?_⟩; omega))
      clear HROW1
      have HN298 : Hid ((((W.heap.size ≠ b ∧ WA.heap.size ≠ b ∧ WA.heap.size ≠ W.heap.size ∧ W.heap.size ≤ WA.heap.size ∧ b < W.heap.size) ∧ W.heap.size < L0 ∧ WA.heap.size < L0 ∧ W.heap.size ≤ L0) ∧ W.heap.size < L1 ∧ WA.heap.size < L1 ∧ W.heap.size ≤ L1 ∧ L0 ≤ L1) ∧ W.heap.size < L2 ∧ WA.heap.size < L2 ∧ W.heap.size ≤ L2 ∧ L1 ≤ L2) := ⟨HN179.out, by
       have hz := HK1.out.size
       have l0 := lt_of_heap HBS.out
       have l1 := lt_of_heap HBP.out
       have ll := HSZ.out
       refine ⟨?_, ?_, ?_, ?_⟩ <;> omega⟩
      clear HN179
      have HSL2 : Hid (L2 ≤ wl1.heap.size) := by show _ ≤ _; omega
      clear hL2 HSZ
      go_wp2_with fail
      go_loopg [38] n2 (fun g t wx => ∃ (i : Nat) (ao : Option Addr) (cap : Nat), i ≤ n2 ∧ g = n2 - i ∧ t = .int .i64 i ∧ Hid (StB wx 67 b (manyD (fun x => rolD x s) i x2).2 ∧ Keeps (fun q => q = b) W wx ∧ L2 ≤ wx.heap.size ∧ wx.heap[W.heap.size]? = some (.cells #[.int .i64 s.prins, .int .i64 s.links, .int .i64 s.stmts, .int .i64 s.grow, .int .i64 s.shrink, .int .i64 s.asks] 32) ∧ wx.heap[WA.heap.size]? = some (.cells #[.slice ao0 n0 cp0, .slice ao1 n1 cp1, .slice ao i cap, .slice none 0 0] 57) ∧ RdX stmE wx (.slice ao0 n0 cp0) l0 (fun k => L0 ≤ k ∧ k < L1 ∧ k < L2) ∧ RdX rolE wx (.slice ao1 n1 cp1) l1 (fun k => L1 ≤ k ∧ k < L2) ∧ OwnK rolE L2 wx (.slice ao i cap) (manyD (fun x => rolD x s) i x2).1))
      case atStart => exact ⟨0, none, 0, Nat.zero_le _, rfl, rfl, HT1.out, HK1.out, HSL2.out, HBS.out, HBP.out, HE296.out, HE297.out, ownK_nil rolE _ _⟩
      case round =>
       obtain ⟨i, ao, cap, hi, rfl, rfl, HI⟩ := hrel
       clear HT1 HK1 HSL2 HBS HBP HE296 HE297
       by_cases hlt : i < n2
       ·have hiI : (i : Int) < s.shrink := by have := HBD.out; omega
        have hi100 : i < 100 := by have := HBD.out; omega
        have HT1 := Lib.hid HI.out.1
        have HK1 := Lib.hid HI.out.2.1
        have HSZ := Lib.hid HI.out.2.2.1
        have HBS := Lib.hid HI.out.2.2.2.1
        have HBP := Lib.hid HI.out.2.2.2.2.1
        have HEX0 := Lib.hid HI.out.2.2.2.2.2.1
        have HEX1 := Lib.hid HI.out.2.2.2.2.2.2.1
        have HRO := Lib.hid HI.out.2.2.2.2.2.2.2
        clear HI
        have hwi : IntKind.i64.wrap ((i : Int) + 1) = (i : Int) + 1 := IntWalk.i64_in _ (by omega)
        obtain ⟨y, hy⟩ : ∃ q, (manyD (fun x => rolD x s) i x2).2 = q := ⟨_, rfl⟩
        obtain ⟨ol, hol⟩ : ∃ q, (manyD (fun x => rolD x s) i x2).1 = q := ⟨_, rfl⟩
        have HNX : Hid ((manyD (fun x => rolD x s) (i + 1) x2).1 = ol ++ [(rolD y s).1] ∧ (manyD (fun x => rolD x s) (i + 1) x2).2 = (rolD y s).2 ∧ ol.length = i) := by
         refine ⟨?_, ?_, ?_⟩
         ·rw [(HSU2.out i).1, hol, hy]
         ·rw [(HSU2.out i).2, hy]
         ·rw [← hol]; exact HLE2.out i
        rw [hy] at HT1
        rw [hol] at HRO
        have HCC := Lib.hid (HC1.out y)
        obtain ⟨⟨nn, yq⟩, hnn⟩ : ∃ q, rolD y s = q := ⟨_, rfl⟩
        rw [hnn] at HCC HNX
        clear hnn hy hol
        obtain ⟨rr1, rr2⟩ := nn
        unfold rolV encStr8 at HCC
        simp only at HCC
        obtain ⟨Sc0, Sf0, Sc1, Sf1, Sc2, Sf2, Sc3, Sf3, Sc4, Sf4, Sc5, Sf5⟩ := cf6 HBS.out
        go_upto_region 13 with fail
        clear Sc0 Sf0 Sc1 Sf1 Sc2 Sf2 Sc3 Sf3 Sc4 Sf4 Sc5 Sf5
        have HMK299 : Hid (∀ w' : World, w'.heap[W.heap.size]? = some (.cells #[.int .i64 s.prins, .int .i64 s.links, .int .i64 s.stmts, .int .i64 s.grow, .int .i64 s.shrink, .int .i64 s.asks] 32) → w'.cell? ⟨W.heap.size, 0, none⟩ = some (.int .i64 s.prins) ∧ w'.cell? ⟨W.heap.size, 1, none⟩ = some (.int .i64 s.links) ∧ w'.cell? ⟨W.heap.size, 2, none⟩ = some (.int .i64 s.stmts) ∧ w'.cell? ⟨W.heap.size, 3, none⟩ = some (.int .i64 s.grow) ∧ w'.cell? ⟨W.heap.size, 4, none⟩ = some (.int .i64 s.shrink) ∧ w'.cell? ⟨W.heap.size, 5, none⟩ = some (.int .i64 s.asks) ∧ Hid (w'.heap[W.heap.size]? = some (.cells #[.int .i64 s.prins, .int .i64 s.links, .int .i64 s.stmts, .int .i64 s.grow, .int .i64 s.shrink, .int .i64 s.asks] 32))) := fun w' h0 => ⟨(by rw [cell_of_heap h0]; rfl), (by rw [cell_of_heap h0]; rfl), (by rw [cell_of_heap h0]; rfl), (by rw [cell_of_heap h0]; rfl), (by rw [cell_of_heap h0]; rfl), (by rw [cell_of_heap h0]; rfl), Lib.hid h0⟩
        have hkd : Keeps (fun _ => False) wr wr.drew := (Keeps.refl _ _).drew
        have HS300 := Lib.hid (((hkd).block _ (lt_of_heap HBS.out) (fun x => x)).trans HBS.out)
        have HX301 := Lib.hid (((hkd).block _ (lt_of_heap HBP.out) (fun x => x)).trans HBP.out)
        have HE302 := Lib.hid (RdX.keeps HEX0.out (hkd) (fun _ _ _ x => x))
        have HE303 := Lib.hid (RdX.keeps HEX1.out (hkd) (fun _ _ _ x => x))
        have HE304 := Lib.hid (OwnK.keeps HRO.out (hkd) (fun _ _ x => x))
        have HE305 := Lib.hid (Nat.le_trans HSZ.out (hkd).size)
        have HS306 := Lib.hid (HT1.out.keeps hkd (fun x => x))
        have HK307 := Lib.hid (HK1.out.drew)
        have hS0 := HMK299.out wr.drew HS300.out
        clear hkd HBS HBP HEX0 HEX1 HRO HSZ HT1 HK1
        refine wp_region_noPanic ?_
        refine wp_region_held_drew (S := (fun w' => w'.cell? ⟨W.heap.size, 0, none⟩ = some (.int .i64 s.prins) ∧ w'.cell? ⟨W.heap.size, 1, none⟩ = some (.int .i64 s.links) ∧ w'.cell? ⟨W.heap.size, 2, none⟩ = some (.int .i64 s.stmts) ∧ w'.cell? ⟨W.heap.size, 3, none⟩ = some (.int .i64 s.grow) ∧ w'.cell? ⟨W.heap.size, 4, none⟩ = some (.int .i64 s.shrink) ∧ w'.cell? ⟨W.heap.size, 5, none⟩ = some (.int .i64 s.asks) ∧ Hid (w'.heap[W.heap.size]? = some (.cells #[.int .i64 s.prins, .int .i64 s.links, .int .i64 s.stmts, .int .i64 s.grow, .int .i64 s.shrink, .int .i64 s.asks] 32)))) (by kernel_rfl) hS0 (fun hHeld => ?_)
        clear hS0
        generalize wr.drew = w308 at *
        refine wpAnyH_take_at (i := 0) (v := ?v0_309) rfl (by kernel_rfl) (by kernel_rfl) (by kernel_rfl) (fun _ _ _ h => h) (Or.inl ⟨by rfl, ?y0_309⟩) hHeld ?r0_309
        case y0_309 => (intro w hSw; (try dsimp only at hSw); go_simp; first | done | with_reducible rfl)
        (try simp only [Act.put, nm1, nm2, nm3])
        refine wpAnyH_take_at (i := 2) (v := ?v2_310) rfl (by kernel_rfl) (by kernel_rfl) (by kernel_rfl) (fun _ _ _ h => h) (Or.inl ⟨by rfl, ?y2_310⟩) hHeld ?r2_310
        case y2_310 => (intro w hSw; (try dsimp only at hSw); go_simp; first | done | with_reducible rfl)
        (try simp only [Act.put, nm1, nm2, nm3])
        refine wpAnyH_take_at (i := 3) (v := ?v3_311) rfl (by kernel_rfl) (by kernel_rfl) (by kernel_rfl) (fun _ _ _ h => h) (Or.inl ⟨by rfl, ?y3_311⟩) hHeld ?r3_311
        case y3_311 => (intro w hSw; (try dsimp only at hSw); go_simp; first | done | with_reducible rfl)
        (try simp only [Act.put, nm1, nm2, nm3])
        refine wpAnyH_two (i := 1) (j := 4) (by kernel_rfl) rfl rfl (fun KK hK => ?p1_312) (fun KK hK => ?p4_312)
        case p1_312 =>
         obtain ⟨Xc0, Xf0, Xc1, Xf1, Xc2, Xf2, Xc3, Xf3⟩ := cf4 HX301.out
         go_simp
         refine hK.out _ _ ?s_313 (fun hHeld => ?_)
         case s_313 => exact HMK299.out _ HS300.out
         clear hK KK
         (try simp only [Act.put, nm1, nm2, nm3])
         clear Xc0 Xf0 Xc1 Xf1 Xc2 Xf2 Xc3 Xf3
         refine wpAnyH_one (i := 4) (by kernel_rfl) rfl (fun KK hK => ?_)
         go_simp
         refine (HCC.out _ HS306.out).mono ?_
         rintro e w314 ⟨rfl, hk⟩
         have HS315 := Lib.hid (((hk.out.2).block _ (lt_of_heap HS300.out) (by have := HN298.out; show ¬ _ = _; omega)).trans HS300.out)
         have HX316 := Lib.hid (((hk.out.2).block _ (lt_of_heap HX301.out) (by have := HN298.out; show ¬ _ = _; omega)).trans HX301.out)
         have HE317 := Lib.hid (RdX.keeps HE302.out (hk.out.2) (fun q hq hp e => by have hp : L0 ≤ q ∧ q < L1 ∧ q < L2 := hp; have e : q = _ := e; have := HN298.out; omega))
         have HE318 := Lib.hid (RdX.keeps HE303.out (hk.out.2) (fun q hq hp e => by have hp : L1 ≤ q ∧ q < L2 := hp; have e : q = _ := e; have := HN298.out; omega))
         have HE319 := Lib.hid (OwnK.keeps HE304.out (hk.out.2) (fun q hq e => by have e : q = _ := e; have := HN298.out; omega))
         have HE320 := Lib.hid (Nat.le_trans HE305.out (hk.out.2).size)
         have HS321 := Lib.hid (hk.out.1)
         have HK322 := Lib.hid (HK307.out.trans (hk.out.2))
         clear hk HCC HS300 HX301 HE302 HE303 HE304 HE305 HS306 HK307
         go_simp
         refine hK.out _ _ ?s_323 (fun hHeld => ?_)
         case s_323 => exact HMK299.out _ HS315.out
         clear hK KK
         (try simp only [Act.put, nm1, nm2, nm3])
         refine wpAnyH_one (i := 5) (by kernel_rfl) rfl (fun KK hK => ?_)
         have hkE : Keeps (fun _ => False) w314 (w314.alloc (.cells #[.string ⟨rr1.toArray⟩, .string ⟨rr2.toArray⟩] 40)) := (Keeps.refl _ _).alloc _
         have HSR : Hid (RdK rolE (w314.alloc (.cells #[.string ⟨rr1.toArray⟩, .string ⟨rr2.toArray⟩] 40)) (.slice (some ⟨w314.heap.size, 0, none⟩) 1 1) [(rr1, rr2)]) := (one_srcK rolE w314 (rr1, rr2) #[.string ⟨rr1.toArray⟩, .string ⟨rr2.toArray⟩] rfl).1
         have HS324 := Lib.hid (((hkE).block _ (lt_of_heap HS315.out) (fun x => x)).trans HS315.out)
         have HX325 := Lib.hid (((hkE).block _ (lt_of_heap HX316.out) (fun x => x)).trans HX316.out)
         have HE326 := Lib.hid (RdX.keeps HE317.out (hkE) (fun _ _ _ x => x))
         have HE327 := Lib.hid (RdX.keeps HE318.out (hkE) (fun _ _ _ x => x))
         have HE328 := Lib.hid (OwnK.keeps HE319.out (hkE) (fun _ _ x => x))
         have HE329 := Lib.hid (Nat.le_trans HE320.out (hkE).size)
         have HS330 := Lib.hid (HS321.out.keeps hkE (fun x => x))
         have HK331 := Lib.hid (HK322.out.trans (hkE.mono (fun _ _ x => x.elim)))
         go_simp
         refine hK.out _ _ ?s_332 (fun hHeld => ?_)
         case s_332 => exact HMK299.out _ HS324.out
         clear hK KK
         (try simp only [Act.put, nm1, nm2, nm3])
         clear hkE HS315 HX316 HE317 HE318 HE319 HE320 HS321 HK322
         generalize (w314.alloc (.cells #[.string ⟨rr1.toArray⟩, .string ⟨rr2.toArray⟩] 40)) = w333 at *
         refine wpAnyH_one (i := 6) (by kernel_rfl) rfl (fun KK hK => ?_)
         refine step_app_fp (E := rolE) rfl (.tmp 41) (.tmp 45) rfl L2 (.slice ao i cap) ol (by simp [Act.eval, Act.put] <;> rfl) HE328.out _ [(rr1, rr2)] (by simp [Act.eval, Act.put] <;> rfl) HSR.out (by simp) (by have := HNX.out.2.2; simp; omega) HE329.out ?_
         intro ao' cap' w334 ho hk hf
         have hln : (ol ++ [(rr1, rr2)]).length = i + 1 := by rw [List.length_append, HNX.out.2.2]; rfl
         rw [hln] at ho hf ⊢
         have kG : Keeps (fun q => L2 ≤ q) w333 w334 := hk.mono (fun q _ e => own_block HE328.out q e)
         have HRN : Hid (OwnK rolE L2 w334 (.slice ao' (i + 1) cap') (ol ++ [(rr1, rr2)])) := ho
         have HS335 := Lib.hid (((kG).block _ (lt_of_heap HS324.out) (by have := HN298.out; show ¬ _ ≤ _; omega)).trans HS324.out)
         have HX336 := Lib.hid (((kG).block _ (lt_of_heap HX325.out) (by have := HN298.out; show ¬ _ ≤ _; omega)).trans HX325.out)
         have HE337 := Lib.hid (RdX.keeps HE326.out (kG) (fun q hq hp e => by have hp : L0 ≤ q ∧ q < L1 ∧ q < L2 := hp; have e : L2 ≤ q := e; have := HN298.out; omega))
         have HE338 := Lib.hid (RdX.keeps HE327.out (kG) (fun q hq hp e => by have hp : L1 ≤ q ∧ q < L2 := hp; have e : L2 ≤ q := e; have := HN298.out; omega))
         have HE339 := Lib.hid (Nat.le_trans HE329.out (kG).size)
         have HS340 := Lib.hid (HS330.out.keeps kG (by have := HN298.out; show ¬ _ ≤ _; omega))
         have HK341 := Lib.hid (HK331.out.trans_new kG (fun q hq e => by have := HN298.out; omega))
         refine hK.out _ _ ?s_342 (fun hHeld => ?_)
         case s_342 => exact HMK299.out _ HS335.out
         clear hK KK
         (try simp only [Act.put, nm1, nm2, nm3])
         clear kG ho hk hf hln HS324 HX325 HE326 HE327 HE329 HE328 HSR HS330 HK331
         refine wpAnyH_one (i := 7) (by kernel_rfl) rfl (fun KK hK => ?_)
         go_simp
         refine hK.out _ _ ?s_343 (fun hHeld => ?_)
         case s_343 => exact HMK299.out _ HS335.out
         clear hK KK
         (try simp only [Act.put, nm1, nm2, nm3])
         refine wpAnyH_one (i := 8) (by kernel_rfl) rfl (fun KK hK => ?_)
         obtain ⟨Xc0, Xf0, Xc1, Xf1, Xc2, Xf2, Xc3, Xf3⟩ := cf4 HX336.out
         have hs0 : (w334.setCell ⟨WA.heap.size, 2, none⟩ (.slice ao' (i + 1) cap')).heap[WA.heap.size]? = some (.cells #[.slice ao0 n0 cp0, .slice ao1 n1 cp1, .slice ao' (i + 1) cap', .slice none 0 0] 57) := heap_set HX336.out 2 (.slice ao' (i + 1) cap')
         have hkE : Keeps (fun q => q = WA.heap.size) w334 (w334.setCell ⟨WA.heap.size, 2, none⟩ (.slice ao' (i + 1) cap')) := Keeps.setCell (S := fun q => q = WA.heap.size) (Keeps.refl _ _) (p := ⟨WA.heap.size, 2, none⟩) (fun _ => rfl) _
         have HX344 := Lib.hid hs0
         have HS345 := Lib.hid (((hkE).block _ (lt_of_heap HS335.out) (by have := HN298.out; show ¬ _ = _; omega)).trans HS335.out)
         have HE346 := Lib.hid (RdX.keeps HE337.out (hkE) (fun q hq hp e => by have hp : L0 ≤ q ∧ q < L1 ∧ q < L2 := hp; have e : q = _ := e; have := HN298.out; omega))
         have HE347 := Lib.hid (RdX.keeps HE338.out (hkE) (fun q hq hp e => by have hp : L1 ≤ q ∧ q < L2 := hp; have e : q = _ := e; have := HN298.out; omega))
         have HE348 := Lib.hid (Nat.le_trans HE339.out (hkE).size)
         have HE349 := Lib.hid (OwnK.keeps HRN.out (hkE) (fun q hq e => by have e : q = _ := e; have := HN298.out; omega))
         have HS350 := Lib.hid (HS340.out.keeps hkE (by have := HN298.out; show ¬ _ = _; omega))
         have HK351 := Lib.hid (HK341.out.trans_new hkE (fun q hq e => by have := HN298.out; omega))
         go_simp
         refine hK.out _ _ ?s_352 (fun hHeld => ?_)
         case s_352 => exact HMK299.out _ HS345.out
         clear hK KK
         (try simp only [Act.put, nm1, nm2, nm3])
         clear hkE hs0  HX336 HS335 HE337 HE338 HE339 HRN HS340 HK341
         clear Xc0 Xf0 Xc1 Xf1 Xc2 Xf2 Xc3 Xf3
         generalize (w334.setCell ⟨WA.heap.size, 2, none⟩ (.slice ao' (i + 1) cap')) = w353 at *
         refine wpAnyH_done (by kernel_rfl) ?_ _
         refine NoPanic.normal ?_
         clear hHeld HMK299
         have HN2 : Hid (StB w353 67 b (manyD (fun x => rolD x s) (i + 1) x2).2 ∧ Keeps (fun q => q = b) W w353 ∧ L2 ≤ w353.heap.size ∧ w353.heap[W.heap.size]? = some (.cells #[.int .i64 s.prins, .int .i64 s.links, .int .i64 s.stmts, .int .i64 s.grow, .int .i64 s.shrink, .int .i64 s.asks] 32) ∧ w353.heap[WA.heap.size]? = some (.cells #[.slice ao0 n0 cp0, .slice ao1 n1 cp1, .slice ao' (i + 1) cap', .slice none 0 0] 57) ∧ RdX stmE w353 (.slice ao0 n0 cp0) l0 (fun k => L0 ≤ k ∧ k < L1 ∧ k < L2) ∧ RdX rolE w353 (.slice ao1 n1 cp1) l1 (fun k => L1 ≤ k ∧ k < L2) ∧ OwnK rolE L2 w353 (.slice ao' (i + 1) cap') (manyD (fun x => rolD x s) (i + 1) x2).1) := by rw [HNX.out.1, HNX.out.2.1]; exact ⟨HS350.out, HK351.out, HE348.out, HS345.out, HX344.out, HE346.out, HE347.out, HE349.out⟩
         clear HS350 HK351 HE348 HE349 HS345 HX344 HE346 HE347
         go_wp2_with fail
         go_roundg (n2 - (i + 1))
         case measure => omega
         case rel => exact ⟨i + 1, ao', cap', by omega, rfl, by go_num, HN2⟩
        case p4_312 =>
         go_simp
         refine (HCC.out _ HS306.out).mono ?_
         rintro e w354 ⟨rfl, hk⟩
         have HS355 := Lib.hid (((hk.out.2).block _ (lt_of_heap HS300.out) (by have := HN298.out; show ¬ _ = _; omega)).trans HS300.out)
         have HX356 := Lib.hid (((hk.out.2).block _ (lt_of_heap HX301.out) (by have := HN298.out; show ¬ _ = _; omega)).trans HX301.out)
         have HE357 := Lib.hid (RdX.keeps HE302.out (hk.out.2) (fun q hq hp e => by have hp : L0 ≤ q ∧ q < L1 ∧ q < L2 := hp; have e : q = _ := e; have := HN298.out; omega))
         have HE358 := Lib.hid (RdX.keeps HE303.out (hk.out.2) (fun q hq hp e => by have hp : L1 ≤ q ∧ q < L2 := hp; have e : q = _ := e; have := HN298.out; omega))
         have HE359 := Lib.hid (OwnK.keeps HE304.out (hk.out.2) (fun q hq e => by have e : q = _ := e; have := HN298.out; omega))
         have HE360 := Lib.hid (Nat.le_trans HE305.out (hk.out.2).size)
         have HS361 := Lib.hid (hk.out.1)
         have HK362 := Lib.hid (HK307.out.trans (hk.out.2))
         clear hk HCC HS300 HX301 HE302 HE303 HE304 HE305 HS306 HK307
         go_simp
         refine hK.out _ _ ?s_363 (fun hHeld => ?_)
         case s_363 => exact HMK299.out _ HS355.out
         clear hK KK
         (try simp only [Act.put, nm1, nm2, nm3])
         refine wpAnyH_two (i := 1) (j := 5) (by kernel_rfl) rfl rfl (fun KK hK => ?p1_364) (fun KK hK => ?p5_364)
         case p1_364 =>
          obtain ⟨Xc0, Xf0, Xc1, Xf1, Xc2, Xf2, Xc3, Xf3⟩ := cf4 HX356.out
          go_simp
          refine hK.out _ _ ?s_365 (fun hHeld => ?_)
          case s_365 => exact HMK299.out _ HS355.out
          clear hK KK
          (try simp only [Act.put, nm1, nm2, nm3])
          clear Xc0 Xf0 Xc1 Xf1 Xc2 Xf2 Xc3 Xf3
          refine wpAnyH_one (i := 5) (by kernel_rfl) rfl (fun KK hK => ?_)
          have hkE : Keeps (fun _ => False) w354 (w354.alloc (.cells #[.string ⟨rr1.toArray⟩, .string ⟨rr2.toArray⟩] 40)) := (Keeps.refl _ _).alloc _
          have HSR : Hid (RdK rolE (w354.alloc (.cells #[.string ⟨rr1.toArray⟩, .string ⟨rr2.toArray⟩] 40)) (.slice (some ⟨w354.heap.size, 0, none⟩) 1 1) [(rr1, rr2)]) := (one_srcK rolE w354 (rr1, rr2) #[.string ⟨rr1.toArray⟩, .string ⟨rr2.toArray⟩] rfl).1
          have HS366 := Lib.hid (((hkE).block _ (lt_of_heap HS355.out) (fun x => x)).trans HS355.out)
          have HX367 := Lib.hid (((hkE).block _ (lt_of_heap HX356.out) (fun x => x)).trans HX356.out)
          have HE368 := Lib.hid (RdX.keeps HE357.out (hkE) (fun _ _ _ x => x))
          have HE369 := Lib.hid (RdX.keeps HE358.out (hkE) (fun _ _ _ x => x))
          have HE370 := Lib.hid (OwnK.keeps HE359.out (hkE) (fun _ _ x => x))
          have HE371 := Lib.hid (Nat.le_trans HE360.out (hkE).size)
          have HS372 := Lib.hid (HS361.out.keeps hkE (fun x => x))
          have HK373 := Lib.hid (HK362.out.trans (hkE.mono (fun _ _ x => x.elim)))
          go_simp
          refine hK.out _ _ ?s_374 (fun hHeld => ?_)
          case s_374 => exact HMK299.out _ HS366.out
          clear hK KK
          (try simp only [Act.put, nm1, nm2, nm3])
          clear hkE HS355 HX356 HE357 HE358 HE359 HE360 HS361 HK362
          generalize (w354.alloc (.cells #[.string ⟨rr1.toArray⟩, .string ⟨rr2.toArray⟩] 40)) = w375 at *
          refine wpAnyH_one (i := 6) (by kernel_rfl) rfl (fun KK hK => ?_)
          refine step_app_fp (E := rolE) rfl (.tmp 41) (.tmp 45) rfl L2 (.slice ao i cap) ol (by simp [Act.eval, Act.put] <;> rfl) HE370.out _ [(rr1, rr2)] (by simp [Act.eval, Act.put] <;> rfl) HSR.out (by simp) (by have := HNX.out.2.2; simp; omega) HE371.out ?_
          intro ao' cap' w376 ho hk hf
          have hln : (ol ++ [(rr1, rr2)]).length = i + 1 := by rw [List.length_append, HNX.out.2.2]; rfl
          rw [hln] at ho hf ⊢
          have kG : Keeps (fun q => L2 ≤ q) w375 w376 := hk.mono (fun q _ e => own_block HE370.out q e)
          have HRN : Hid (OwnK rolE L2 w376 (.slice ao' (i + 1) cap') (ol ++ [(rr1, rr2)])) := ho
          have HS377 := Lib.hid (((kG).block _ (lt_of_heap HS366.out) (by have := HN298.out; show ¬ _ ≤ _; omega)).trans HS366.out)
          have HX378 := Lib.hid (((kG).block _ (lt_of_heap HX367.out) (by have := HN298.out; show ¬ _ ≤ _; omega)).trans HX367.out)
          have HE379 := Lib.hid (RdX.keeps HE368.out (kG) (fun q hq hp e => by have hp : L0 ≤ q ∧ q < L1 ∧ q < L2 := hp; have e : L2 ≤ q := e; have := HN298.out; omega))
          have HE380 := Lib.hid (RdX.keeps HE369.out (kG) (fun q hq hp e => by have hp : L1 ≤ q ∧ q < L2 := hp; have e : L2 ≤ q := e; have := HN298.out; omega))
          have HE381 := Lib.hid (Nat.le_trans HE371.out (kG).size)
          have HS382 := Lib.hid (HS372.out.keeps kG (by have := HN298.out; show ¬ _ ≤ _; omega))
          have HK383 := Lib.hid (HK373.out.trans_new kG (fun q hq e => by have := HN298.out; omega))
          refine hK.out _ _ ?s_384 (fun hHeld => ?_)
          case s_384 => exact HMK299.out _ HS377.out
          clear hK KK
          (try simp only [Act.put, nm1, nm2, nm3])
          clear kG ho hk hf hln HS366 HX367 HE368 HE369 HE371 HE370 HSR HS372 HK373
          refine wpAnyH_one (i := 7) (by kernel_rfl) rfl (fun KK hK => ?_)
          go_simp
          refine hK.out _ _ ?s_385 (fun hHeld => ?_)
          case s_385 => exact HMK299.out _ HS377.out
          clear hK KK
          (try simp only [Act.put, nm1, nm2, nm3])
          refine wpAnyH_one (i := 8) (by kernel_rfl) rfl (fun KK hK => ?_)
          obtain ⟨Xc0, Xf0, Xc1, Xf1, Xc2, Xf2, Xc3, Xf3⟩ := cf4 HX378.out
          have hs0 : (w376.setCell ⟨WA.heap.size, 2, none⟩ (.slice ao' (i + 1) cap')).heap[WA.heap.size]? = some (.cells #[.slice ao0 n0 cp0, .slice ao1 n1 cp1, .slice ao' (i + 1) cap', .slice none 0 0] 57) := heap_set HX378.out 2 (.slice ao' (i + 1) cap')
          have hkE : Keeps (fun q => q = WA.heap.size) w376 (w376.setCell ⟨WA.heap.size, 2, none⟩ (.slice ao' (i + 1) cap')) := Keeps.setCell (S := fun q => q = WA.heap.size) (Keeps.refl _ _) (p := ⟨WA.heap.size, 2, none⟩) (fun _ => rfl) _
          have HX386 := Lib.hid hs0
          have HS387 := Lib.hid (((hkE).block _ (lt_of_heap HS377.out) (by have := HN298.out; show ¬ _ = _; omega)).trans HS377.out)
          have HE388 := Lib.hid (RdX.keeps HE379.out (hkE) (fun q hq hp e => by have hp : L0 ≤ q ∧ q < L1 ∧ q < L2 := hp; have e : q = _ := e; have := HN298.out; omega))
          have HE389 := Lib.hid (RdX.keeps HE380.out (hkE) (fun q hq hp e => by have hp : L1 ≤ q ∧ q < L2 := hp; have e : q = _ := e; have := HN298.out; omega))
          have HE390 := Lib.hid (Nat.le_trans HE381.out (hkE).size)
          have HE391 := Lib.hid (OwnK.keeps HRN.out (hkE) (fun q hq e => by have e : q = _ := e; have := HN298.out; omega))
          have HS392 := Lib.hid (HS382.out.keeps hkE (by have := HN298.out; show ¬ _ = _; omega))
          have HK393 := Lib.hid (HK383.out.trans_new hkE (fun q hq e => by have := HN298.out; omega))
          go_simp
          refine hK.out _ _ ?s_394 (fun hHeld => ?_)
          case s_394 => exact HMK299.out _ HS387.out
          clear hK KK
          (try simp only [Act.put, nm1, nm2, nm3])
          clear hkE hs0  HX378 HS377 HE379 HE380 HE381 HRN HS382 HK383
          clear Xc0 Xf0 Xc1 Xf1 Xc2 Xf2 Xc3 Xf3
          generalize (w376.setCell ⟨WA.heap.size, 2, none⟩ (.slice ao' (i + 1) cap')) = w395 at *
          refine wpAnyH_done (by kernel_rfl) ?_ _
          refine NoPanic.normal ?_
          clear hHeld HMK299
          have HN2 : Hid (StB w395 67 b (manyD (fun x => rolD x s) (i + 1) x2).2 ∧ Keeps (fun q => q = b) W w395 ∧ L2 ≤ w395.heap.size ∧ w395.heap[W.heap.size]? = some (.cells #[.int .i64 s.prins, .int .i64 s.links, .int .i64 s.stmts, .int .i64 s.grow, .int .i64 s.shrink, .int .i64 s.asks] 32) ∧ w395.heap[WA.heap.size]? = some (.cells #[.slice ao0 n0 cp0, .slice ao1 n1 cp1, .slice ao' (i + 1) cap', .slice none 0 0] 57) ∧ RdX stmE w395 (.slice ao0 n0 cp0) l0 (fun k => L0 ≤ k ∧ k < L1 ∧ k < L2) ∧ RdX rolE w395 (.slice ao1 n1 cp1) l1 (fun k => L1 ≤ k ∧ k < L2) ∧ OwnK rolE L2 w395 (.slice ao' (i + 1) cap') (manyD (fun x => rolD x s) (i + 1) x2).1) := by rw [HNX.out.1, HNX.out.2.1]; exact ⟨HS392.out, HK393.out, HE390.out, HS387.out, HX386.out, HE388.out, HE389.out, HE391.out⟩
          clear HS392 HK393 HE390 HE391 HS387 HX386 HE388 HE389
          go_wp2_with fail
          go_roundg (n2 - (i + 1))
          case measure => omega
          case rel => exact ⟨i + 1, ao', cap', by omega, rfl, by go_num, HN2⟩
         case p5_364 =>
          have hkE : Keeps (fun _ => False) w354 (w354.alloc (.cells #[.string ⟨rr1.toArray⟩, .string ⟨rr2.toArray⟩] 40)) := (Keeps.refl _ _).alloc _
          have HSR : Hid (RdK rolE (w354.alloc (.cells #[.string ⟨rr1.toArray⟩, .string ⟨rr2.toArray⟩] 40)) (.slice (some ⟨w354.heap.size, 0, none⟩) 1 1) [(rr1, rr2)]) := (one_srcK rolE w354 (rr1, rr2) #[.string ⟨rr1.toArray⟩, .string ⟨rr2.toArray⟩] rfl).1
          have HS396 := Lib.hid (((hkE).block _ (lt_of_heap HS355.out) (fun x => x)).trans HS355.out)
          have HX397 := Lib.hid (((hkE).block _ (lt_of_heap HX356.out) (fun x => x)).trans HX356.out)
          have HE398 := Lib.hid (RdX.keeps HE357.out (hkE) (fun _ _ _ x => x))
          have HE399 := Lib.hid (RdX.keeps HE358.out (hkE) (fun _ _ _ x => x))
          have HE400 := Lib.hid (OwnK.keeps HE359.out (hkE) (fun _ _ x => x))
          have HE401 := Lib.hid (Nat.le_trans HE360.out (hkE).size)
          have HS402 := Lib.hid (HS361.out.keeps hkE (fun x => x))
          have HK403 := Lib.hid (HK362.out.trans (hkE.mono (fun _ _ x => x.elim)))
          go_simp
          refine hK.out _ _ ?s_404 (fun hHeld => ?_)
          case s_404 => exact HMK299.out _ HS396.out
          clear hK KK
          (try simp only [Act.put, nm1, nm2, nm3])
          clear hkE HS355 HX356 HE357 HE358 HE359 HE360 HS361 HK362
          generalize (w354.alloc (.cells #[.string ⟨rr1.toArray⟩, .string ⟨rr2.toArray⟩] 40)) = w405 at *
          refine wpAnyH_one (i := 1) (by kernel_rfl) rfl (fun KK hK => ?_)
          obtain ⟨Xc0, Xf0, Xc1, Xf1, Xc2, Xf2, Xc3, Xf3⟩ := cf4 HX397.out
          go_simp
          refine hK.out _ _ ?s_406 (fun hHeld => ?_)
          case s_406 => exact HMK299.out _ HS396.out
          clear hK KK
          (try simp only [Act.put, nm1, nm2, nm3])
          clear Xc0 Xf0 Xc1 Xf1 Xc2 Xf2 Xc3 Xf3
          refine wpAnyH_one (i := 6) (by kernel_rfl) rfl (fun KK hK => ?_)
          refine step_app_fp (E := rolE) rfl (.tmp 41) (.tmp 45) rfl L2 (.slice ao i cap) ol (by simp [Act.eval, Act.put] <;> rfl) HE400.out _ [(rr1, rr2)] (by simp [Act.eval, Act.put] <;> rfl) HSR.out (by simp) (by have := HNX.out.2.2; simp; omega) HE401.out ?_
          intro ao' cap' w407 ho hk hf
          have hln : (ol ++ [(rr1, rr2)]).length = i + 1 := by rw [List.length_append, HNX.out.2.2]; rfl
          rw [hln] at ho hf ⊢
          have kG : Keeps (fun q => L2 ≤ q) w405 w407 := hk.mono (fun q _ e => own_block HE400.out q e)
          have HRN : Hid (OwnK rolE L2 w407 (.slice ao' (i + 1) cap') (ol ++ [(rr1, rr2)])) := ho
          have HS408 := Lib.hid (((kG).block _ (lt_of_heap HS396.out) (by have := HN298.out; show ¬ _ ≤ _; omega)).trans HS396.out)
          have HX409 := Lib.hid (((kG).block _ (lt_of_heap HX397.out) (by have := HN298.out; show ¬ _ ≤ _; omega)).trans HX397.out)
          have HE410 := Lib.hid (RdX.keeps HE398.out (kG) (fun q hq hp e => by have hp : L0 ≤ q ∧ q < L1 ∧ q < L2 := hp; have e : L2 ≤ q := e; have := HN298.out; omega))
          have HE411 := Lib.hid (RdX.keeps HE399.out (kG) (fun q hq hp e => by have hp : L1 ≤ q ∧ q < L2 := hp; have e : L2 ≤ q := e; have := HN298.out; omega))
          have HE412 := Lib.hid (Nat.le_trans HE401.out (kG).size)
          have HS413 := Lib.hid (HS402.out.keeps kG (by have := HN298.out; show ¬ _ ≤ _; omega))
          have HK414 := Lib.hid (HK403.out.trans_new kG (fun q hq e => by have := HN298.out; omega))
          refine hK.out _ _ ?s_415 (fun hHeld => ?_)
          case s_415 => exact HMK299.out _ HS408.out
          clear hK KK
          (try simp only [Act.put, nm1, nm2, nm3])
          clear kG ho hk hf hln HS396 HX397 HE398 HE399 HE401 HE400 HSR HS402 HK403
          refine wpAnyH_one (i := 7) (by kernel_rfl) rfl (fun KK hK => ?_)
          go_simp
          refine hK.out _ _ ?s_416 (fun hHeld => ?_)
          case s_416 => exact HMK299.out _ HS408.out
          clear hK KK
          (try simp only [Act.put, nm1, nm2, nm3])
          refine wpAnyH_one (i := 8) (by kernel_rfl) rfl (fun KK hK => ?_)
          obtain ⟨Xc0, Xf0, Xc1, Xf1, Xc2, Xf2, Xc3, Xf3⟩ := cf4 HX409.out
          have hs0 : (w407.setCell ⟨WA.heap.size, 2, none⟩ (.slice ao' (i + 1) cap')).heap[WA.heap.size]? = some (.cells #[.slice ao0 n0 cp0, .slice ao1 n1 cp1, .slice ao' (i + 1) cap', .slice none 0 0] 57) := heap_set HX409.out 2 (.slice ao' (i + 1) cap')
          have hkE : Keeps (fun q => q = WA.heap.size) w407 (w407.setCell ⟨WA.heap.size, 2, none⟩ (.slice ao' (i + 1) cap')) := Keeps.setCell (S := fun q => q = WA.heap.size) (Keeps.refl _ _) (p := ⟨WA.heap.size, 2, none⟩) (fun _ => rfl) _
          have HX417 := Lib.hid hs0
          have HS418 := Lib.hid (((hkE).block _ (lt_of_heap HS408.out) (by have := HN298.out; show ¬ _ = _; omega)).trans HS408.out)
          have HE419 := Lib.hid (RdX.keeps HE410.out (hkE) (fun q hq hp e => by have hp : L0 ≤ q ∧ q < L1 ∧ q < L2 := hp; have e : q = _ := e; have := HN298.out; omega))
          have HE420 := Lib.hid (RdX.keeps HE411.out (hkE) (fun q hq hp e => by have hp : L1 ≤ q ∧ q < L2 := hp; have e : q = _ := e; have := HN298.out; omega))
          have HE421 := Lib.hid (Nat.le_trans HE412.out (hkE).size)
          have HE422 := Lib.hid (OwnK.keeps HRN.out (hkE) (fun q hq e => by have e : q = _ := e; have := HN298.out; omega))
          have HS423 := Lib.hid (HS413.out.keeps hkE (by have := HN298.out; show ¬ _ = _; omega))
          have HK424 := Lib.hid (HK414.out.trans_new hkE (fun q hq e => by have := HN298.out; omega))
          go_simp
          refine hK.out _ _ ?s_425 (fun hHeld => ?_)
          case s_425 => exact HMK299.out _ HS418.out
          clear hK KK
          (try simp only [Act.put, nm1, nm2, nm3])
          clear hkE hs0  HX409 HS408 HE410 HE411 HE412 HRN HS413 HK414
          clear Xc0 Xf0 Xc1 Xf1 Xc2 Xf2 Xc3 Xf3
          generalize (w407.setCell ⟨WA.heap.size, 2, none⟩ (.slice ao' (i + 1) cap')) = w426 at *
          refine wpAnyH_done (by kernel_rfl) ?_ _
          refine NoPanic.normal ?_
          clear hHeld HMK299
          have HN2 : Hid (StB w426 67 b (manyD (fun x => rolD x s) (i + 1) x2).2 ∧ Keeps (fun q => q = b) W w426 ∧ L2 ≤ w426.heap.size ∧ w426.heap[W.heap.size]? = some (.cells #[.int .i64 s.prins, .int .i64 s.links, .int .i64 s.stmts, .int .i64 s.grow, .int .i64 s.shrink, .int .i64 s.asks] 32) ∧ w426.heap[WA.heap.size]? = some (.cells #[.slice ao0 n0 cp0, .slice ao1 n1 cp1, .slice ao' (i + 1) cap', .slice none 0 0] 57) ∧ RdX stmE w426 (.slice ao0 n0 cp0) l0 (fun k => L0 ≤ k ∧ k < L1 ∧ k < L2) ∧ RdX rolE w426 (.slice ao1 n1 cp1) l1 (fun k => L1 ≤ k ∧ k < L2) ∧ OwnK rolE L2 w426 (.slice ao' (i + 1) cap') (manyD (fun x => rolD x s) (i + 1) x2).1) := by rw [HNX.out.1, HNX.out.2.1]; exact ⟨HS423.out, HK424.out, HE421.out, HS418.out, HX417.out, HE419.out, HE420.out, HE422.out⟩
          clear HS423 HK424 HE421 HE422 HS418 HX417 HE419 HE420
          go_wp2_with fail
          go_roundg (n2 - (i + 1))
          case measure => omega
          case rel => exact ⟨i + 1, ao', cap', by omega, rfl, by go_num, HN2⟩
       ·obtain rfl : n2 = i := by omega
        have hiI : ¬ (n2 : Int) < s.shrink := by have := HBD.out; omega
        have HT1 := Lib.hid HI.out.1
        have HK1 := Lib.hid HI.out.2.1
        have HSZ := Lib.hid HI.out.2.2.1
        have HBS := Lib.hid HI.out.2.2.2.1
        have HBP := Lib.hid HI.out.2.2.2.2.1
        have HEX0 := Lib.hid HI.out.2.2.2.2.2.1
        have HEX1 := Lib.hid HI.out.2.2.2.2.2.2.1
        have HRO := Lib.hid HI.out.2.2.2.2.2.2.2
        clear HI
        rw [HM2.out] at HT1 HRO
        have HROW2 : Hid (RdX rolE wr (.slice ao n2 cap) l2 (fun k => L2 ≤ k)) := HRO.out.rdX (fun k hk _ => hk)
        clear HRO HM2 HSU2 HLE2 HC1
        skip
        generalize ao = ao2 at *
        generalize cap = cp2 at *
        generalize wr = wl2 at *
        obtain ⟨Sc0, Sf0, Sc1, Sf1, Sc2, Sf2, Sc3, Sf3, Sc4, Sf4, Sc5, Sf5⟩ := cf6 HBS.out
        go_upto_region 16 with fail
        clear Sc0 Sf0 Sc1 Sf1 Sc2 Sf2 Sc3 Sf3 Sc4 Sf4 Sc5 Sf5
        obtain ⟨L3, hL3⟩ : ∃ q, wl2.heap.size = q := ⟨_, rfl⟩
        have HE427 : Hid (RdX stmE wl2 (.slice ao0 n0 cp0) l0 (fun k => L0 ≤ k ∧ k < L1 ∧ k < L2 ∧ k < L3)) := HEX0.out.into (Keeps.refl (fun _ => False) _) (fun _ _ _ x => x) (fun q hq hp => by have hp : L0 ≤ q ∧ q < L1 ∧ q < L2 := hp; have := hL3; show L0 ≤ q ∧ q < L1 ∧ q < L2 ∧ q < L3; first | omega | (obtain ⟨hp1, hp2⟩ := hp; refine ⟨hp1, ?_⟩; omega) | (refine ⟨hp, ?_⟩; omega))
        clear HEX0
        have HE428 : Hid (RdX rolE wl2 (.slice ao1 n1 cp1) l1 (fun k => L1 ≤ k ∧ k < L2 ∧ k < L3)) := HEX1.out.into (Keeps.refl (fun _ => False) _) (fun _ _ _ x => x) (fun q hq hp => by have hp : L1 ≤ q ∧ q < L2 := hp; have := hL3; show L1 ≤ q ∧ q < L2 ∧ q < L3; first | omega | (obtain ⟨hp1, hp2⟩ := hp; refine ⟨hp1, ?_⟩; omega) | (refine ⟨hp, ?_⟩; omega))
        clear HEX1
        have HE429 : Hid (RdX rolE wl2 (.slice ao2 n2 cp2) l2 (fun k => L2 ≤ k ∧ k < L3)) := HROW2.out.into (Keeps.refl (fun _ => False) _) (fun _ _ _ x => x) (fun q hq hp => by have hp : L2 ≤ q := hp; have := hL3; show L2 ≤ q ∧ q < L3; first | omega | (obtain ⟨hp1, hp2⟩ := hp; refine ⟨hp1, ?_⟩; omega) | (refine ⟨hp, ?_⟩; omega))
        clear HROW2
        have HN430 : Hid (((((W.heap.size ≠ b ∧ WA.heap.size ≠ b ∧ WA.heap.size ≠ W.heap.size ∧ W.heap.size ≤ WA.heap.size ∧ b < W.heap.size) ∧ W.heap.size < L0 ∧ WA.heap.size < L0 ∧ W.heap.size ≤ L0) ∧ W.heap.size < L1 ∧ WA.heap.size < L1 ∧ W.heap.size ≤ L1 ∧ L0 ≤ L1) ∧ W.heap.size < L2 ∧ WA.heap.size < L2 ∧ W.heap.size ≤ L2 ∧ L1 ≤ L2) ∧ W.heap.size < L3 ∧ WA.heap.size < L3 ∧ W.heap.size ≤ L3 ∧ L2 ≤ L3) := ⟨HN298.out, by
         have hz := HK1.out.size
         have l0 := lt_of_heap HBS.out
         have l1 := lt_of_heap HBP.out
         have ll := HSZ.out
         refine ⟨?_, ?_, ?_, ?_⟩ <;> omega⟩
        clear HN298
        have HSL3 : Hid (L3 ≤ wl2.heap.size) := by show _ ≤ _; omega
        clear hL3 HSZ
        go_wp2_with fail
        go_loopg [51] n3 (fun g t wx => ∃ (i : Nat) (ao : Option Addr) (cap : Nat), i ≤ n3 ∧ g = n3 - i ∧ t = .int .i64 i ∧ Hid (StB wx 67 b (manyD (fun x => askD x s) i x3).2 ∧ Keeps (fun q => q = b) W wx ∧ L3 ≤ wx.heap.size ∧ wx.heap[W.heap.size]? = some (.cells #[.int .i64 s.prins, .int .i64 s.links, .int .i64 s.stmts, .int .i64 s.grow, .int .i64 s.shrink, .int .i64 s.asks] 32) ∧ wx.heap[WA.heap.size]? = some (.cells #[.slice ao0 n0 cp0, .slice ao1 n1 cp1, .slice ao2 n2 cp2, .slice ao i cap] 57) ∧ RdX stmE wx (.slice ao0 n0 cp0) l0 (fun k => L0 ≤ k ∧ k < L1 ∧ k < L2 ∧ k < L3) ∧ RdX rolE wx (.slice ao1 n1 cp1) l1 (fun k => L1 ≤ k ∧ k < L2 ∧ k < L3) ∧ RdX rolE wx (.slice ao2 n2 cp2) l2 (fun k => L2 ≤ k ∧ k < L3) ∧ QRow L3 wx (.slice ao i cap) (manyD (fun x => askD x s) i x3).1))
        case atStart => exact ⟨0, none, 0, Nat.zero_le _, rfl, rfl, HT1.out, HK1.out, HSL3.out, HBS.out, HBP.out, HE427.out, HE428.out, HE429.out, QRow.nil _ _⟩
        case round =>
         obtain ⟨i, ao, cap, hi, rfl, rfl, HI⟩ := hrel
         clear HT1 HK1 HSL3 HBS HBP HE427 HE428 HE429
         by_cases hlt : i < n3
         ·have hiI : (i : Int) < s.asks := by have := HBD.out; omega
          have hi100 : i < 100 := by have := HBD.out; omega
          have HT1 := Lib.hid HI.out.1
          have HK1 := Lib.hid HI.out.2.1
          have HSZ := Lib.hid HI.out.2.2.1
          have HBS := Lib.hid HI.out.2.2.2.1
          have HBP := Lib.hid HI.out.2.2.2.2.1
          have HEX0 := Lib.hid HI.out.2.2.2.2.2.1
          have HEX1 := Lib.hid HI.out.2.2.2.2.2.2.1
          have HEX2 := Lib.hid HI.out.2.2.2.2.2.2.2.1
          have HRO := Lib.hid HI.out.2.2.2.2.2.2.2.2
          clear HI
          have hwi : IntKind.i64.wrap ((i : Int) + 1) = (i : Int) + 1 := IntWalk.i64_in _ (by omega)
          obtain ⟨y, hy⟩ : ∃ q, (manyD (fun x => askD x s) i x3).2 = q := ⟨_, rfl⟩
          obtain ⟨ol, hol⟩ : ∃ q, (manyD (fun x => askD x s) i x3).1 = q := ⟨_, rfl⟩
          have HNX : Hid ((manyD (fun x => askD x s) (i + 1) x3).1 = ol ++ [(askD y s).1] ∧ (manyD (fun x => askD x s) (i + 1) x3).2 = (askD y s).2 ∧ ol.length = i) := by
           refine ⟨?_, ?_, ?_⟩
           ·rw [(HSU3.out i).1, hol, hy]
           ·rw [(HSU3.out i).2, hy]
           ·rw [← hol]; exact HLE3.out i
          rw [hy] at HT1
          rw [hol] at HRO
          have HCC := Lib.hid (HC3.out y)
          obtain ⟨⟨nn, yq⟩, hnn⟩ : ∃ q, askD y s = q := ⟨_, rfl⟩
          rw [hnn] at HCC HNX
          clear hnn hy hol
          obtain ⟨qk, ⟨qa1, qa2⟩, ⟨qb1, qb2⟩, qw⟩ := nn
          unfold AskTo qryV at HCC
          simp only at HCC
          obtain ⟨lv, d1, d2, d3⟩ := id HRO.out
          have HLV : Hid (lv.length = i) := by show _ = _; rw [d1]; exact HNX.out.2.2
          have HRW : Hid (OwnK qE L3 wr (.slice ao i cap) lv) := d2
          have HDD : Hid (∀ (j : Nat) (q : Qry) (qv : QV), ol[j]? = some q → lv[j]? = some qv → RelQ L3 wr qv q ∧ ∀ k, (whoV qv).ownBlock = some k → (Value.slice ao i cap).ownBlock ≠ some k) := d3
          clear d1 d2 d3 HRO
          obtain ⟨Sc0, Sf0, Sc1, Sf1, Sc2, Sf2, Sc3, Sf3, Sc4, Sf4, Sc5, Sf5⟩ := cf6 HBS.out
          go_upto_region 17 with fail
          clear Sc0 Sf0 Sc1 Sf1 Sc2 Sf2 Sc3 Sf3 Sc4 Sf4 Sc5 Sf5
          have HMK431 : Hid (∀ w' : World, w'.heap[W.heap.size]? = some (.cells #[.int .i64 s.prins, .int .i64 s.links, .int .i64 s.stmts, .int .i64 s.grow, .int .i64 s.shrink, .int .i64 s.asks] 32) → w'.cell? ⟨W.heap.size, 0, none⟩ = some (.int .i64 s.prins) ∧ w'.cell? ⟨W.heap.size, 1, none⟩ = some (.int .i64 s.links) ∧ w'.cell? ⟨W.heap.size, 2, none⟩ = some (.int .i64 s.stmts) ∧ w'.cell? ⟨W.heap.size, 3, none⟩ = some (.int .i64 s.grow) ∧ w'.cell? ⟨W.heap.size, 4, none⟩ = some (.int .i64 s.shrink) ∧ w'.cell? ⟨W.heap.size, 5, none⟩ = some (.int .i64 s.asks) ∧ Hid (w'.heap[W.heap.size]? = some (.cells #[.int .i64 s.prins, .int .i64 s.links, .int .i64 s.stmts, .int .i64 s.grow, .int .i64 s.shrink, .int .i64 s.asks] 32))) := fun w' h0 => ⟨(by rw [cell_of_heap h0]; rfl), (by rw [cell_of_heap h0]; rfl), (by rw [cell_of_heap h0]; rfl), (by rw [cell_of_heap h0]; rfl), (by rw [cell_of_heap h0]; rfl), (by rw [cell_of_heap h0]; rfl), Lib.hid h0⟩
          have hkd : Keeps (fun _ => False) wr wr.drew := (Keeps.refl _ _).drew
          have HS432 := Lib.hid (((hkd).block _ (lt_of_heap HBS.out) (fun x => x)).trans HBS.out)
          have HX433 := Lib.hid (((hkd).block _ (lt_of_heap HBP.out) (fun x => x)).trans HBP.out)
          have HE434 := Lib.hid (RdX.keeps HEX0.out (hkd) (fun _ _ _ x => x))
          have HE435 := Lib.hid (RdX.keeps HEX1.out (hkd) (fun _ _ _ x => x))
          have HE436 := Lib.hid (RdX.keeps HEX2.out (hkd) (fun _ _ _ x => x))
          have HE437 : Hid (∀ (j : Nat) (q : Qry) (qv : QV), ol[j]? = some q → lv[j]? = some qv → RelQ L3 wr.drew qv q ∧ ∀ k, (whoV qv).ownBlock = some k → (Value.slice ao i cap).ownBlock ≠ some k) := fun j q qv hj hv => ⟨(HDD.out j q qv hj hv).1.keeps (hkd) (fun _ _ _ x => x), (HDD.out j q qv hj hv).2⟩
          have HE438 := Lib.hid (OwnK.keeps HRW.out (hkd) (fun _ _ x => x))
          have HE439 := Lib.hid (Nat.le_trans HSZ.out (hkd).size)
          have HS440 := Lib.hid (HT1.out.keeps hkd (fun x => x))
          have HK441 := Lib.hid (HK1.out.drew)
          have hS0 := HMK431.out wr.drew HS432.out
          clear hkd HBS HBP HEX0 HEX1 HEX2 HDD HRW HSZ HT1 HK1
          refine wp_region_noPanic ?_
          refine wp_region_held_drew (S := (fun w' => w'.cell? ⟨W.heap.size, 0, none⟩ = some (.int .i64 s.prins) ∧ w'.cell? ⟨W.heap.size, 1, none⟩ = some (.int .i64 s.links) ∧ w'.cell? ⟨W.heap.size, 2, none⟩ = some (.int .i64 s.stmts) ∧ w'.cell? ⟨W.heap.size, 3, none⟩ = some (.int .i64 s.grow) ∧ w'.cell? ⟨W.heap.size, 4, none⟩ = some (.int .i64 s.shrink) ∧ w'.cell? ⟨W.heap.size, 5, none⟩ = some (.int .i64 s.asks) ∧ Hid (w'.heap[W.heap.size]? = some (.cells #[.int .i64 s.prins, .int .i64 s.links, .int .i64 s.stmts, .int .i64 s.grow, .int .i64 s.shrink, .int .i64 s.asks] 32)))) (by kernel_rfl) hS0 (fun hHeld => ?_)
          clear hS0
          generalize wr.drew = w442 at *
          refine wpAnyH_take_at (i := 0) (v := ?v0_443) rfl (by kernel_rfl) (by kernel_rfl) (by kernel_rfl) (fun _ _ _ h => h) (Or.inl ⟨by rfl, ?y0_443⟩) hHeld ?r0_443
          case y0_443 => (intro w hSw; (try dsimp only at hSw); go_simp; first | done | with_reducible rfl)
          (try simp only [Act.put, nm1, nm2, nm3])
          refine wpAnyH_take_at (i := 2) (v := ?v2_444) rfl (by kernel_rfl) (by kernel_rfl) (by kernel_rfl) (fun _ _ _ h => h) (Or.inl ⟨by rfl, ?y2_444⟩) hHeld ?r2_444
          case y2_444 => (intro w hSw; (try dsimp only at hSw); go_simp; first | done | with_reducible rfl)
          (try simp only [Act.put, nm1, nm2, nm3])
          refine wpAnyH_take_at (i := 3) (v := ?v3_445) rfl (by kernel_rfl) (by kernel_rfl) (by kernel_rfl) (fun _ _ _ h => h) (Or.inl ⟨by rfl, ?y3_445⟩) hHeld ?r3_445
          case y3_445 => (intro w hSw; (try dsimp only at hSw); go_simp; first | done | with_reducible rfl)
          (try simp only [Act.put, nm1, nm2, nm3])
          refine wpAnyH_two (i := 1) (j := 4) (by kernel_rfl) rfl rfl (fun KK hK => ?p1_446) (fun KK hK => ?p4_446)
          case p1_446 =>
           obtain ⟨Xc0, Xf0, Xc1, Xf1, Xc2, Xf2, Xc3, Xf3⟩ := cf4 HX433.out
           go_simp
           refine hK.out _ _ ?s_447 (fun hHeld => ?_)
           case s_447 => exact HMK431.out _ HS432.out
           clear hK KK
           (try simp only [Act.put, nm1, nm2, nm3])
           clear Xc0 Xf0 Xc1 Xf1 Xc2 Xf2 Xc3 Xf3
           refine wpAnyH_one (i := 4) (by kernel_rfl) rfl (fun KK hK => ?_)
           go_simp
           refine (HCC.out _ HS440.out).mono ?_
           rintro e w448 ⟨cv, rfl, hk⟩
           obtain ⟨co, cc, hcv, hzz⟩ := id hk.out.2.2.1
           clear hzz
           subst hcv
           have HCV : Hid (RowAt L3 w448 (.slice co qw.length cc) qw ∧ ∀ k, (Value.slice co qw.length cc).ownBlock = some k → (Value.slice ao i cap).ownBlock ≠ some k) := ⟨⟨hk.out.2.2.1, fun k hk2 => ⟨Nat.le_trans HE439.out (hk.out.2.2.2 k hk2).1, (hk.out.2.2.2 k hk2).2⟩⟩, fun k hk2 e => by have e1 := own_lt HE438.out k e; have e2 := (hk.out.2.2.2 k hk2).1; omega⟩
           have HS449 := Lib.hid (((hk.out.2.1).block _ (lt_of_heap HS432.out) (by have := HN430.out; show ¬ _ = _; omega)).trans HS432.out)
           have HX450 := Lib.hid (((hk.out.2.1).block _ (lt_of_heap HX433.out) (by have := HN430.out; show ¬ _ = _; omega)).trans HX433.out)
           have HE451 := Lib.hid (RdX.keeps HE434.out (hk.out.2.1) (fun q hq hp e => by have hp : L0 ≤ q ∧ q < L1 ∧ q < L2 ∧ q < L3 := hp; have e : q = _ := e; have := HN430.out; omega))
           have HE452 := Lib.hid (RdX.keeps HE435.out (hk.out.2.1) (fun q hq hp e => by have hp : L1 ≤ q ∧ q < L2 ∧ q < L3 := hp; have e : q = _ := e; have := HN430.out; omega))
           have HE453 := Lib.hid (RdX.keeps HE436.out (hk.out.2.1) (fun q hq hp e => by have hp : L2 ≤ q ∧ q < L3 := hp; have e : q = _ := e; have := HN430.out; omega))
           have HE454 : Hid (∀ (j : Nat) (q : Qry) (qv : QV), ol[j]? = some q → lv[j]? = some qv → RelQ L3 w448 qv q ∧ ∀ k, (whoV qv).ownBlock = some k → (Value.slice ao i cap).ownBlock ≠ some k) := fun j q qv hj hv => ⟨(HE437.out j q qv hj hv).1.keeps (hk.out.2.1) (fun q hq _ e => by have e : q = _ := e; have := HN430.out; omega), (HE437.out j q qv hj hv).2⟩
           have HE455 := Lib.hid (OwnK.keeps HE438.out (hk.out.2.1) (fun q hq e => by have e : q = _ := e; have := HN430.out; omega))
           have HE456 := Lib.hid (Nat.le_trans HE439.out (hk.out.2.1).size)
           have HS457 := Lib.hid (hk.out.1)
           have HK458 := Lib.hid (HK441.out.trans hk.out.2.1)
           clear hk HCC HS432 HX433 HE434 HE435 HE436 HE437 HE438 HE439 HS440 HK441
           go_simp
           refine hK.out _ _ ?s_459 (fun hHeld => ?_)
           case s_459 => exact HMK431.out _ HS449.out
           clear hK KK
           (try simp only [Act.put, nm1, nm2, nm3])
           refine wpAnyH_one (i := 5) (by kernel_rfl) rfl (fun KK hK => ?_)
           have hkE : Keeps (fun _ => False) w448 (w448.alloc (.cells #[.int .i64 qk, .string ⟨qa1.toArray⟩, .string ⟨qa2.toArray⟩, .string ⟨qb1.toArray⟩, .string ⟨qb2.toArray⟩, .slice co qw.length cc] 49)) := (Keeps.refl _ _).alloc _
           have HSR : Hid (RdK qE (w448.alloc (.cells #[.int .i64 qk, .string ⟨qa1.toArray⟩, .string ⟨qa2.toArray⟩, .string ⟨qb1.toArray⟩, .string ⟨qb2.toArray⟩, .slice co qw.length cc] 49)) (.slice (some ⟨w448.heap.size, 0, none⟩) 1 1) [(qk, (qa1, qa2), (qb1, qb2), co, qw.length, cc)]) := (one_srcK qE w448 (qk, (qa1, qa2), (qb1, qb2), co, qw.length, cc) #[.int .i64 qk, .string ⟨qa1.toArray⟩, .string ⟨qa2.toArray⟩, .string ⟨qb1.toArray⟩, .string ⟨qb2.toArray⟩, .slice co qw.length cc] rfl).1
           have HS460 := Lib.hid (((hkE).block _ (lt_of_heap HS449.out) (fun x => x)).trans HS449.out)
           have HX461 := Lib.hid (((hkE).block _ (lt_of_heap HX450.out) (fun x => x)).trans HX450.out)
           have HE462 := Lib.hid (RdX.keeps HE451.out (hkE) (fun _ _ _ x => x))
           have HE463 := Lib.hid (RdX.keeps HE452.out (hkE) (fun _ _ _ x => x))
           have HE464 := Lib.hid (RdX.keeps HE453.out (hkE) (fun _ _ _ x => x))
           have HE465 : Hid (∀ (j : Nat) (q : Qry) (qv : QV), ol[j]? = some q → lv[j]? = some qv → RelQ L3 (w448.alloc (.cells #[.int .i64 qk, .string ⟨qa1.toArray⟩, .string ⟨qa2.toArray⟩, .string ⟨qb1.toArray⟩, .string ⟨qb2.toArray⟩, .slice co qw.length cc] 49)) qv q ∧ ∀ k, (whoV qv).ownBlock = some k → (Value.slice ao i cap).ownBlock ≠ some k) := fun j q qv hj hv => ⟨(HE454.out j q qv hj hv).1.keeps (hkE) (fun _ _ _ x => x), (HE454.out j q qv hj hv).2⟩
           have HE466 := Lib.hid (OwnK.keeps HE455.out (hkE) (fun _ _ x => x))
           have HE467 := Lib.hid (Nat.le_trans HE456.out (hkE).size)
           have HE468 : Hid (RowAt L3 (w448.alloc (.cells #[.int .i64 qk, .string ⟨qa1.toArray⟩, .string ⟨qa2.toArray⟩, .string ⟨qb1.toArray⟩, .string ⟨qb2.toArray⟩, .slice co qw.length cc] 49)) (.slice co qw.length cc) qw ∧ ∀ k, (Value.slice co qw.length cc).ownBlock = some k → (Value.slice ao i cap).ownBlock ≠ some k) := ⟨RowAt.keeps HCV.out.1 (hkE) (fun _ _ _ x => x), HCV.out.2⟩
           have HS469 := Lib.hid (HS457.out.keeps hkE (fun x => x))
           have HK470 := Lib.hid (HK458.out.trans (hkE.mono (fun _ _ x => x.elim)))
           go_simp
           refine hK.out _ _ ?s_471 (fun hHeld => ?_)
           case s_471 => exact HMK431.out _ HS460.out
           clear hK KK
           (try simp only [Act.put, nm1, nm2, nm3])
           clear hkE HS449 HX450 HE451 HE452 HE453 HE454 HE455 HE456 HCV HS457 HK458
           generalize (w448.alloc (.cells #[.int .i64 qk, .string ⟨qa1.toArray⟩, .string ⟨qa2.toArray⟩, .string ⟨qb1.toArray⟩, .string ⟨qb2.toArray⟩, .slice co qw.length cc] 49)) = w472 at *
           refine wpAnyH_one (i := 6) (by kernel_rfl) rfl (fun KK hK => ?_)
           refine step_app_fp (E := qE) rfl (.tmp 54) (.tmp 58) rfl L3 (.slice ao i cap) lv (by simp [Act.eval, Act.put] <;> rfl) HE466.out _ [(qk, (qa1, qa2), (qb1, qb2), co, qw.length, cc)] (by simp [Act.eval, Act.put] <;> rfl) HSR.out (by simp) (by have := HLV.out; simp; omega) HE467.out ?_
           intro ao' cap' w473 ho hk hf
           have hln : (lv ++ [(qk, (qa1, qa2), (qb1, qb2), co, qw.length, cc)]).length = i + 1 := by rw [List.length_append, HLV.out]; rfl
           rw [hln] at ho hf ⊢
           have kG : Keeps (fun q => L3 ≤ q) w472 w473 := hk.mono (fun q _ e => own_block HE466.out q e)
           have HRN : Hid (QRow L3 w473 (.slice ao' (i + 1) cap') (ol ++ [(qk, (qa1, qa2), (qb1, qb2), qw)])) := QRow.snoc (by rw [HLV.out, HNX.out.2.2]) HE466.out HE465.out (qv := (qk, (qa1, qa2), (qb1, qb2), co, qw.length, cc)) ⟨rfl, rfl, rfl, HE468.out.1⟩ HE468.out.2 ho hk hf
           have HS474 := Lib.hid (((kG).block _ (lt_of_heap HS460.out) (by have := HN430.out; show ¬ _ ≤ _; omega)).trans HS460.out)
           have HX475 := Lib.hid (((kG).block _ (lt_of_heap HX461.out) (by have := HN430.out; show ¬ _ ≤ _; omega)).trans HX461.out)
           have HE476 := Lib.hid (RdX.keeps HE462.out (kG) (fun q hq hp e => by have hp : L0 ≤ q ∧ q < L1 ∧ q < L2 ∧ q < L3 := hp; have e : L3 ≤ q := e; have := HN430.out; omega))
           have HE477 := Lib.hid (RdX.keeps HE463.out (kG) (fun q hq hp e => by have hp : L1 ≤ q ∧ q < L2 ∧ q < L3 := hp; have e : L3 ≤ q := e; have := HN430.out; omega))
           have HE478 := Lib.hid (RdX.keeps HE464.out (kG) (fun q hq hp e => by have hp : L2 ≤ q ∧ q < L3 := hp; have e : L3 ≤ q := e; have := HN430.out; omega))
           have HE479 := Lib.hid (Nat.le_trans HE467.out (kG).size)
           have HS480 := Lib.hid (HS469.out.keeps kG (by have := HN430.out; show ¬ _ ≤ _; omega))
           have HK481 := Lib.hid (HK470.out.trans_new kG (fun q hq e => by have := HN430.out; omega))
           refine hK.out _ _ ?s_482 (fun hHeld => ?_)
           case s_482 => exact HMK431.out _ HS474.out
           clear hK KK
           (try simp only [Act.put, nm1, nm2, nm3])
           clear kG ho hk hf hln HS460 HX461 HE462 HE463 HE464 HE467 HE465 HE466 HE468 HSR HS469 HK470
           refine wpAnyH_one (i := 7) (by kernel_rfl) rfl (fun KK hK => ?_)
           go_simp
           refine hK.out _ _ ?s_483 (fun hHeld => ?_)
           case s_483 => exact HMK431.out _ HS474.out
           clear hK KK
           (try simp only [Act.put, nm1, nm2, nm3])
           refine wpAnyH_one (i := 8) (by kernel_rfl) rfl (fun KK hK => ?_)
           obtain ⟨Xc0, Xf0, Xc1, Xf1, Xc2, Xf2, Xc3, Xf3⟩ := cf4 HX475.out
           have hs0 : (w473.setCell ⟨WA.heap.size, 3, none⟩ (.slice ao' (i + 1) cap')).heap[WA.heap.size]? = some (.cells #[.slice ao0 n0 cp0, .slice ao1 n1 cp1, .slice ao2 n2 cp2, .slice ao' (i + 1) cap'] 57) := heap_set HX475.out 3 (.slice ao' (i + 1) cap')
           have hkE : Keeps (fun q => q = WA.heap.size) w473 (w473.setCell ⟨WA.heap.size, 3, none⟩ (.slice ao' (i + 1) cap')) := Keeps.setCell (S := fun q => q = WA.heap.size) (Keeps.refl _ _) (p := ⟨WA.heap.size, 3, none⟩) (fun _ => rfl) _
           have HX484 := Lib.hid hs0
           have HS485 := Lib.hid (((hkE).block _ (lt_of_heap HS474.out) (by have := HN430.out; show ¬ _ = _; omega)).trans HS474.out)
           have HE486 := Lib.hid (RdX.keeps HE476.out (hkE) (fun q hq hp e => by have hp : L0 ≤ q ∧ q < L1 ∧ q < L2 ∧ q < L3 := hp; have e : q = _ := e; have := HN430.out; omega))
           have HE487 := Lib.hid (RdX.keeps HE477.out (hkE) (fun q hq hp e => by have hp : L1 ≤ q ∧ q < L2 ∧ q < L3 := hp; have e : q = _ := e; have := HN430.out; omega))
           have HE488 := Lib.hid (RdX.keeps HE478.out (hkE) (fun q hq hp e => by have hp : L2 ≤ q ∧ q < L3 := hp; have e : q = _ := e; have := HN430.out; omega))
           have HE489 := Lib.hid (Nat.le_trans HE479.out (hkE).size)
           have HE490 := Lib.hid (QRow.keeps HRN.out (hkE) (fun q hq _ e => by have e : q = _ := e; have := HN430.out; omega))
           have HS491 := Lib.hid (HS480.out.keeps hkE (by have := HN430.out; show ¬ _ = _; omega))
           have HK492 := Lib.hid (HK481.out.trans_new hkE (fun q hq e => by have := HN430.out; omega))
           go_simp
           refine hK.out _ _ ?s_493 (fun hHeld => ?_)
           case s_493 => exact HMK431.out _ HS485.out
           clear hK KK
           (try simp only [Act.put, nm1, nm2, nm3])
           clear hkE hs0  HX475 HS474 HE476 HE477 HE478 HE479 HRN HS480 HK481
           clear Xc0 Xf0 Xc1 Xf1 Xc2 Xf2 Xc3 Xf3
           generalize (w473.setCell ⟨WA.heap.size, 3, none⟩ (.slice ao' (i + 1) cap')) = w494 at *
           refine wpAnyH_done (by kernel_rfl) ?_ _
           refine NoPanic.normal ?_
           clear hHeld HMK431
           have HN2 : Hid (StB w494 67 b (manyD (fun x => askD x s) (i + 1) x3).2 ∧ Keeps (fun q => q = b) W w494 ∧ L3 ≤ w494.heap.size ∧ w494.heap[W.heap.size]? = some (.cells #[.int .i64 s.prins, .int .i64 s.links, .int .i64 s.stmts, .int .i64 s.grow, .int .i64 s.shrink, .int .i64 s.asks] 32) ∧ w494.heap[WA.heap.size]? = some (.cells #[.slice ao0 n0 cp0, .slice ao1 n1 cp1, .slice ao2 n2 cp2, .slice ao' (i + 1) cap'] 57) ∧ RdX stmE w494 (.slice ao0 n0 cp0) l0 (fun k => L0 ≤ k ∧ k < L1 ∧ k < L2 ∧ k < L3) ∧ RdX rolE w494 (.slice ao1 n1 cp1) l1 (fun k => L1 ≤ k ∧ k < L2 ∧ k < L3) ∧ RdX rolE w494 (.slice ao2 n2 cp2) l2 (fun k => L2 ≤ k ∧ k < L3) ∧ QRow L3 w494 (.slice ao' (i + 1) cap') (manyD (fun x => askD x s) (i + 1) x3).1) := by rw [HNX.out.1, HNX.out.2.1]; exact ⟨HS491.out, HK492.out, HE489.out, HS485.out, HX484.out, HE486.out, HE487.out, HE488.out, HE490.out⟩
           clear HS491 HK492 HE489 HE490 HS485 HX484 HE486 HE487 HE488
           go_wp2_with fail
           go_roundg (n3 - (i + 1))
           case measure => omega
           case rel => exact ⟨i + 1, ao', cap', by omega, rfl, by go_num, HN2⟩
          case p4_446 =>
           go_simp
           refine (HCC.out _ HS440.out).mono ?_
           rintro e w495 ⟨cv, rfl, hk⟩
           obtain ⟨co, cc, hcv, hzz⟩ := id hk.out.2.2.1
           clear hzz
           subst hcv
           have HCV : Hid (RowAt L3 w495 (.slice co qw.length cc) qw ∧ ∀ k, (Value.slice co qw.length cc).ownBlock = some k → (Value.slice ao i cap).ownBlock ≠ some k) := ⟨⟨hk.out.2.2.1, fun k hk2 => ⟨Nat.le_trans HE439.out (hk.out.2.2.2 k hk2).1, (hk.out.2.2.2 k hk2).2⟩⟩, fun k hk2 e => by have e1 := own_lt HE438.out k e; have e2 := (hk.out.2.2.2 k hk2).1; omega⟩
           have HS496 := Lib.hid (((hk.out.2.1).block _ (lt_of_heap HS432.out) (by have := HN430.out; show ¬ _ = _; omega)).trans HS432.out)
           have HX497 := Lib.hid (((hk.out.2.1).block _ (lt_of_heap HX433.out) (by have := HN430.out; show ¬ _ = _; omega)).trans HX433.out)
           have HE498 := Lib.hid (RdX.keeps HE434.out (hk.out.2.1) (fun q hq hp e => by have hp : L0 ≤ q ∧ q < L1 ∧ q < L2 ∧ q < L3 := hp; have e : q = _ := e; have := HN430.out; omega))
           have HE499 := Lib.hid (RdX.keeps HE435.out (hk.out.2.1) (fun q hq hp e => by have hp : L1 ≤ q ∧ q < L2 ∧ q < L3 := hp; have e : q = _ := e; have := HN430.out; omega))
           have HE500 := Lib.hid (RdX.keeps HE436.out (hk.out.2.1) (fun q hq hp e => by have hp : L2 ≤ q ∧ q < L3 := hp; have e : q = _ := e; have := HN430.out; omega))
           have HE501 : Hid (∀ (j : Nat) (q : Qry) (qv : QV), ol[j]? = some q → lv[j]? = some qv → RelQ L3 w495 qv q ∧ ∀ k, (whoV qv).ownBlock = some k → (Value.slice ao i cap).ownBlock ≠ some k) := fun j q qv hj hv => ⟨(HE437.out j q qv hj hv).1.keeps (hk.out.2.1) (fun q hq _ e => by have e : q = _ := e; have := HN430.out; omega), (HE437.out j q qv hj hv).2⟩
           have HE502 := Lib.hid (OwnK.keeps HE438.out (hk.out.2.1) (fun q hq e => by have e : q = _ := e; have := HN430.out; omega))
           have HE503 := Lib.hid (Nat.le_trans HE439.out (hk.out.2.1).size)
           have HS504 := Lib.hid (hk.out.1)
           have HK505 := Lib.hid (HK441.out.trans hk.out.2.1)
           clear hk HCC HS432 HX433 HE434 HE435 HE436 HE437 HE438 HE439 HS440 HK441
           go_simp
           refine hK.out _ _ ?s_506 (fun hHeld => ?_)
           case s_506 => exact HMK431.out _ HS496.out
           clear hK KK
           (try simp only [Act.put, nm1, nm2, nm3])
           refine wpAnyH_two (i := 1) (j := 5) (by kernel_rfl) rfl rfl (fun KK hK => ?p1_507) (fun KK hK => ?p5_507)
           case p1_507 =>
            obtain ⟨Xc0, Xf0, Xc1, Xf1, Xc2, Xf2, Xc3, Xf3⟩ := cf4 HX497.out
            go_simp
            refine hK.out _ _ ?s_508 (fun hHeld => ?_)
            case s_508 => exact HMK431.out _ HS496.out
            clear hK KK
            (try simp only [Act.put, nm1, nm2, nm3])
            clear Xc0 Xf0 Xc1 Xf1 Xc2 Xf2 Xc3 Xf3
            refine wpAnyH_one (i := 5) (by kernel_rfl) rfl (fun KK hK => ?_)
            have hkE : Keeps (fun _ => False) w495 (w495.alloc (.cells #[.int .i64 qk, .string ⟨qa1.toArray⟩, .string ⟨qa2.toArray⟩, .string ⟨qb1.toArray⟩, .string ⟨qb2.toArray⟩, .slice co qw.length cc] 49)) := (Keeps.refl _ _).alloc _
            have HSR : Hid (RdK qE (w495.alloc (.cells #[.int .i64 qk, .string ⟨qa1.toArray⟩, .string ⟨qa2.toArray⟩, .string ⟨qb1.toArray⟩, .string ⟨qb2.toArray⟩, .slice co qw.length cc] 49)) (.slice (some ⟨w495.heap.size, 0, none⟩) 1 1) [(qk, (qa1, qa2), (qb1, qb2), co, qw.length, cc)]) := (one_srcK qE w495 (qk, (qa1, qa2), (qb1, qb2), co, qw.length, cc) #[.int .i64 qk, .string ⟨qa1.toArray⟩, .string ⟨qa2.toArray⟩, .string ⟨qb1.toArray⟩, .string ⟨qb2.toArray⟩, .slice co qw.length cc] rfl).1
            have HS509 := Lib.hid (((hkE).block _ (lt_of_heap HS496.out) (fun x => x)).trans HS496.out)
            have HX510 := Lib.hid (((hkE).block _ (lt_of_heap HX497.out) (fun x => x)).trans HX497.out)
            have HE511 := Lib.hid (RdX.keeps HE498.out (hkE) (fun _ _ _ x => x))
            have HE512 := Lib.hid (RdX.keeps HE499.out (hkE) (fun _ _ _ x => x))
            have HE513 := Lib.hid (RdX.keeps HE500.out (hkE) (fun _ _ _ x => x))
            have HE514 : Hid (∀ (j : Nat) (q : Qry) (qv : QV), ol[j]? = some q → lv[j]? = some qv → RelQ L3 (w495.alloc (.cells #[.int .i64 qk, .string ⟨qa1.toArray⟩, .string ⟨qa2.toArray⟩, .string ⟨qb1.toArray⟩, .string ⟨qb2.toArray⟩, .slice co qw.length cc] 49)) qv q ∧ ∀ k, (whoV qv).ownBlock = some k → (Value.slice ao i cap).ownBlock ≠ some k) := fun j q qv hj hv => ⟨(HE501.out j q qv hj hv).1.keeps (hkE) (fun _ _ _ x => x), (HE501.out j q qv hj hv).2⟩
            have HE515 := Lib.hid (OwnK.keeps HE502.out (hkE) (fun _ _ x => x))
            have HE516 := Lib.hid (Nat.le_trans HE503.out (hkE).size)
            have HE517 : Hid (RowAt L3 (w495.alloc (.cells #[.int .i64 qk, .string ⟨qa1.toArray⟩, .string ⟨qa2.toArray⟩, .string ⟨qb1.toArray⟩, .string ⟨qb2.toArray⟩, .slice co qw.length cc] 49)) (.slice co qw.length cc) qw ∧ ∀ k, (Value.slice co qw.length cc).ownBlock = some k → (Value.slice ao i cap).ownBlock ≠ some k) := ⟨RowAt.keeps HCV.out.1 (hkE) (fun _ _ _ x => x), HCV.out.2⟩
            have HS518 := Lib.hid (HS504.out.keeps hkE (fun x => x))
            have HK519 := Lib.hid (HK505.out.trans (hkE.mono (fun _ _ x => x.elim)))
            go_simp
            refine hK.out _ _ ?s_520 (fun hHeld => ?_)
            case s_520 => exact HMK431.out _ HS509.out
            clear hK KK
            (try simp only [Act.put, nm1, nm2, nm3])
            clear hkE HS496 HX497 HE498 HE499 HE500 HE501 HE502 HE503 HCV HS504 HK505
            generalize (w495.alloc (.cells #[.int .i64 qk, .string ⟨qa1.toArray⟩, .string ⟨qa2.toArray⟩, .string ⟨qb1.toArray⟩, .string ⟨qb2.toArray⟩, .slice co qw.length cc] 49)) = w521 at *
            refine wpAnyH_one (i := 6) (by kernel_rfl) rfl (fun KK hK => ?_)
            refine step_app_fp (E := qE) rfl (.tmp 54) (.tmp 58) rfl L3 (.slice ao i cap) lv (by simp [Act.eval, Act.put] <;> rfl) HE515.out _ [(qk, (qa1, qa2), (qb1, qb2), co, qw.length, cc)] (by simp [Act.eval, Act.put] <;> rfl) HSR.out (by simp) (by have := HLV.out; simp; omega) HE516.out ?_
            intro ao' cap' w522 ho hk hf
            have hln : (lv ++ [(qk, (qa1, qa2), (qb1, qb2), co, qw.length, cc)]).length = i + 1 := by rw [List.length_append, HLV.out]; rfl
            rw [hln] at ho hf ⊢
            have kG : Keeps (fun q => L3 ≤ q) w521 w522 := hk.mono (fun q _ e => own_block HE515.out q e)
            have HRN : Hid (QRow L3 w522 (.slice ao' (i + 1) cap') (ol ++ [(qk, (qa1, qa2), (qb1, qb2), qw)])) := QRow.snoc (by rw [HLV.out, HNX.out.2.2]) HE515.out HE514.out (qv := (qk, (qa1, qa2), (qb1, qb2), co, qw.length, cc)) ⟨rfl, rfl, rfl, HE517.out.1⟩ HE517.out.2 ho hk hf
            have HS523 := Lib.hid (((kG).block _ (lt_of_heap HS509.out) (by have := HN430.out; show ¬ _ ≤ _; omega)).trans HS509.out)
            have HX524 := Lib.hid (((kG).block _ (lt_of_heap HX510.out) (by have := HN430.out; show ¬ _ ≤ _; omega)).trans HX510.out)
            have HE525 := Lib.hid (RdX.keeps HE511.out (kG) (fun q hq hp e => by have hp : L0 ≤ q ∧ q < L1 ∧ q < L2 ∧ q < L3 := hp; have e : L3 ≤ q := e; have := HN430.out; omega))
            have HE526 := Lib.hid (RdX.keeps HE512.out (kG) (fun q hq hp e => by have hp : L1 ≤ q ∧ q < L2 ∧ q < L3 := hp; have e : L3 ≤ q := e; have := HN430.out; omega))
            have HE527 := Lib.hid (RdX.keeps HE513.out (kG) (fun q hq hp e => by have hp : L2 ≤ q ∧ q < L3 := hp; have e : L3 ≤ q := e; have := HN430.out; omega))
            have HE528 := Lib.hid (Nat.le_trans HE516.out (kG).size)
            have HS529 := Lib.hid (HS518.out.keeps kG (by have := HN430.out; show ¬ _ ≤ _; omega))
            have HK530 := Lib.hid (HK519.out.trans_new kG (fun q hq e => by have := HN430.out; omega))
            refine hK.out _ _ ?s_531 (fun hHeld => ?_)
            case s_531 => exact HMK431.out _ HS523.out
            clear hK KK
            (try simp only [Act.put, nm1, nm2, nm3])
            clear kG ho hk hf hln HS509 HX510 HE511 HE512 HE513 HE516 HE514 HE515 HE517 HSR HS518 HK519
            refine wpAnyH_one (i := 7) (by kernel_rfl) rfl (fun KK hK => ?_)
            go_simp
            refine hK.out _ _ ?s_532 (fun hHeld => ?_)
            case s_532 => exact HMK431.out _ HS523.out
            clear hK KK
            (try simp only [Act.put, nm1, nm2, nm3])
            refine wpAnyH_one (i := 8) (by kernel_rfl) rfl (fun KK hK => ?_)
            obtain ⟨Xc0, Xf0, Xc1, Xf1, Xc2, Xf2, Xc3, Xf3⟩ := cf4 HX524.out
            have hs0 : (w522.setCell ⟨WA.heap.size, 3, none⟩ (.slice ao' (i + 1) cap')).heap[WA.heap.size]? = some (.cells #[.slice ao0 n0 cp0, .slice ao1 n1 cp1, .slice ao2 n2 cp2, .slice ao' (i + 1) cap'] 57) := heap_set HX524.out 3 (.slice ao' (i + 1) cap')
            have hkE : Keeps (fun q => q = WA.heap.size) w522 (w522.setCell ⟨WA.heap.size, 3, none⟩ (.slice ao' (i + 1) cap')) := Keeps.setCell (S := fun q => q = WA.heap.size) (Keeps.refl _ _) (p := ⟨WA.heap.size, 3, none⟩) (fun _ => rfl) _
            have HX533 := Lib.hid hs0
            have HS534 := Lib.hid (((hkE).block _ (lt_of_heap HS523.out) (by have := HN430.out; show ¬ _ = _; omega)).trans HS523.out)
            have HE535 := Lib.hid (RdX.keeps HE525.out (hkE) (fun q hq hp e => by have hp : L0 ≤ q ∧ q < L1 ∧ q < L2 ∧ q < L3 := hp; have e : q = _ := e; have := HN430.out; omega))
            have HE536 := Lib.hid (RdX.keeps HE526.out (hkE) (fun q hq hp e => by have hp : L1 ≤ q ∧ q < L2 ∧ q < L3 := hp; have e : q = _ := e; have := HN430.out; omega))
            have HE537 := Lib.hid (RdX.keeps HE527.out (hkE) (fun q hq hp e => by have hp : L2 ≤ q ∧ q < L3 := hp; have e : q = _ := e; have := HN430.out; omega))
            have HE538 := Lib.hid (Nat.le_trans HE528.out (hkE).size)
            have HE539 := Lib.hid (QRow.keeps HRN.out (hkE) (fun q hq _ e => by have e : q = _ := e; have := HN430.out; omega))
            have HS540 := Lib.hid (HS529.out.keeps hkE (by have := HN430.out; show ¬ _ = _; omega))
            have HK541 := Lib.hid (HK530.out.trans_new hkE (fun q hq e => by have := HN430.out; omega))
            go_simp
            refine hK.out _ _ ?s_542 (fun hHeld => ?_)
            case s_542 => exact HMK431.out _ HS534.out
            clear hK KK
            (try simp only [Act.put, nm1, nm2, nm3])
            clear hkE hs0  HX524 HS523 HE525 HE526 HE527 HE528 HRN HS529 HK530
            clear Xc0 Xf0 Xc1 Xf1 Xc2 Xf2 Xc3 Xf3
            generalize (w522.setCell ⟨WA.heap.size, 3, none⟩ (.slice ao' (i + 1) cap')) = w543 at *
            refine wpAnyH_done (by kernel_rfl) ?_ _
            refine NoPanic.normal ?_
            clear hHeld HMK431
            have HN2 : Hid (StB w543 67 b (manyD (fun x => askD x s) (i + 1) x3).2 ∧ Keeps (fun q => q = b) W w543 ∧ L3 ≤ w543.heap.size ∧ w543.heap[W.heap.size]? = some (.cells #[.int .i64 s.prins, .int .i64 s.links, .int .i64 s.stmts, .int .i64 s.grow, .int .i64 s.shrink, .int .i64 s.asks] 32) ∧ w543.heap[WA.heap.size]? = some (.cells #[.slice ao0 n0 cp0, .slice ao1 n1 cp1, .slice ao2 n2 cp2, .slice ao' (i + 1) cap'] 57) ∧ RdX stmE w543 (.slice ao0 n0 cp0) l0 (fun k => L0 ≤ k ∧ k < L1 ∧ k < L2 ∧ k < L3) ∧ RdX rolE w543 (.slice ao1 n1 cp1) l1 (fun k => L1 ≤ k ∧ k < L2 ∧ k < L3) ∧ RdX rolE w543 (.slice ao2 n2 cp2) l2 (fun k => L2 ≤ k ∧ k < L3) ∧ QRow L3 w543 (.slice ao' (i + 1) cap') (manyD (fun x => askD x s) (i + 1) x3).1) := by rw [HNX.out.1, HNX.out.2.1]; exact ⟨HS540.out, HK541.out, HE538.out, HS534.out, HX533.out, HE535.out, HE536.out, HE537.out, HE539.out⟩
            clear HS540 HK541 HE538 HE539 HS534 HX533 HE535 HE536 HE537
            go_wp2_with fail
            go_roundg (n3 - (i + 1))
            case measure => omega
            case rel => exact ⟨i + 1, ao', cap', by omega, rfl, by go_num, HN2⟩
           case p5_507 =>
            have hkE : Keeps (fun _ => False) w495 (w495.alloc (.cells #[.int .i64 qk, .string ⟨qa1.toArray⟩, .string ⟨qa2.toArray⟩, .string ⟨qb1.toArray⟩, .string ⟨qb2.toArray⟩, .slice co qw.length cc] 49)) := (Keeps.refl _ _).alloc _
            have HSR : Hid (RdK qE (w495.alloc (.cells #[.int .i64 qk, .string ⟨qa1.toArray⟩, .string ⟨qa2.toArray⟩, .string ⟨qb1.toArray⟩, .string ⟨qb2.toArray⟩, .slice co qw.length cc] 49)) (.slice (some ⟨w495.heap.size, 0, none⟩) 1 1) [(qk, (qa1, qa2), (qb1, qb2), co, qw.length, cc)]) := (one_srcK qE w495 (qk, (qa1, qa2), (qb1, qb2), co, qw.length, cc) #[.int .i64 qk, .string ⟨qa1.toArray⟩, .string ⟨qa2.toArray⟩, .string ⟨qb1.toArray⟩, .string ⟨qb2.toArray⟩, .slice co qw.length cc] rfl).1
            have HS544 := Lib.hid (((hkE).block _ (lt_of_heap HS496.out) (fun x => x)).trans HS496.out)
            have HX545 := Lib.hid (((hkE).block _ (lt_of_heap HX497.out) (fun x => x)).trans HX497.out)
            have HE546 := Lib.hid (RdX.keeps HE498.out (hkE) (fun _ _ _ x => x))
            have HE547 := Lib.hid (RdX.keeps HE499.out (hkE) (fun _ _ _ x => x))
            have HE548 := Lib.hid (RdX.keeps HE500.out (hkE) (fun _ _ _ x => x))
            have HE549 : Hid (∀ (j : Nat) (q : Qry) (qv : QV), ol[j]? = some q → lv[j]? = some qv → RelQ L3 (w495.alloc (.cells #[.int .i64 qk, .string ⟨qa1.toArray⟩, .string ⟨qa2.toArray⟩, .string ⟨qb1.toArray⟩, .string ⟨qb2.toArray⟩, .slice co qw.length cc] 49)) qv q ∧ ∀ k, (whoV qv).ownBlock = some k → (Value.slice ao i cap).ownBlock ≠ some k) := fun j q qv hj hv => ⟨(HE501.out j q qv hj hv).1.keeps (hkE) (fun _ _ _ x => x), (HE501.out j q qv hj hv).2⟩
            have HE550 := Lib.hid (OwnK.keeps HE502.out (hkE) (fun _ _ x => x))
            have HE551 := Lib.hid (Nat.le_trans HE503.out (hkE).size)
            have HE552 : Hid (RowAt L3 (w495.alloc (.cells #[.int .i64 qk, .string ⟨qa1.toArray⟩, .string ⟨qa2.toArray⟩, .string ⟨qb1.toArray⟩, .string ⟨qb2.toArray⟩, .slice co qw.length cc] 49)) (.slice co qw.length cc) qw ∧ ∀ k, (Value.slice co qw.length cc).ownBlock = some k → (Value.slice ao i cap).ownBlock ≠ some k) := ⟨RowAt.keeps HCV.out.1 (hkE) (fun _ _ _ x => x), HCV.out.2⟩
            have HS553 := Lib.hid (HS504.out.keeps hkE (fun x => x))
            have HK554 := Lib.hid (HK505.out.trans (hkE.mono (fun _ _ x => x.elim)))
            go_simp
            refine hK.out _ _ ?s_555 (fun hHeld => ?_)
            case s_555 => exact HMK431.out _ HS544.out
            clear hK KK
            (try simp only [Act.put, nm1, nm2, nm3])
            clear hkE HS496 HX497 HE498 HE499 HE500 HE501 HE502 HE503 HCV HS504 HK505
            generalize (w495.alloc (.cells #[.int .i64 qk, .string ⟨qa1.toArray⟩, .string ⟨qa2.toArray⟩, .string ⟨qb1.toArray⟩, .string ⟨qb2.toArray⟩, .slice co qw.length cc] 49)) = w556 at *
            refine wpAnyH_one (i := 1) (by kernel_rfl) rfl (fun KK hK => ?_)
            obtain ⟨Xc0, Xf0, Xc1, Xf1, Xc2, Xf2, Xc3, Xf3⟩ := cf4 HX545.out
            go_simp
            refine hK.out _ _ ?s_557 (fun hHeld => ?_)
            case s_557 => exact HMK431.out _ HS544.out
            clear hK KK
            (try simp only [Act.put, nm1, nm2, nm3])
            clear Xc0 Xf0 Xc1 Xf1 Xc2 Xf2 Xc3 Xf3
            refine wpAnyH_one (i := 6) (by kernel_rfl) rfl (fun KK hK => ?_)
            refine step_app_fp (E := qE) rfl (.tmp 54) (.tmp 58) rfl L3 (.slice ao i cap) lv (by simp [Act.eval, Act.put] <;> rfl) HE550.out _ [(qk, (qa1, qa2), (qb1, qb2), co, qw.length, cc)] (by simp [Act.eval, Act.put] <;> rfl) HSR.out (by simp) (by have := HLV.out; simp; omega) HE551.out ?_
            intro ao' cap' w558 ho hk hf
            have hln : (lv ++ [(qk, (qa1, qa2), (qb1, qb2), co, qw.length, cc)]).length = i + 1 := by rw [List.length_append, HLV.out]; rfl
            rw [hln] at ho hf ⊢
            have kG : Keeps (fun q => L3 ≤ q) w556 w558 := hk.mono (fun q _ e => own_block HE550.out q e)
            have HRN : Hid (QRow L3 w558 (.slice ao' (i + 1) cap') (ol ++ [(qk, (qa1, qa2), (qb1, qb2), qw)])) := QRow.snoc (by rw [HLV.out, HNX.out.2.2]) HE550.out HE549.out (qv := (qk, (qa1, qa2), (qb1, qb2), co, qw.length, cc)) ⟨rfl, rfl, rfl, HE552.out.1⟩ HE552.out.2 ho hk hf
            have HS559 := Lib.hid (((kG).block _ (lt_of_heap HS544.out) (by have := HN430.out; show ¬ _ ≤ _; omega)).trans HS544.out)
            have HX560 := Lib.hid (((kG).block _ (lt_of_heap HX545.out) (by have := HN430.out; show ¬ _ ≤ _; omega)).trans HX545.out)
            have HE561 := Lib.hid (RdX.keeps HE546.out (kG) (fun q hq hp e => by have hp : L0 ≤ q ∧ q < L1 ∧ q < L2 ∧ q < L3 := hp; have e : L3 ≤ q := e; have := HN430.out; omega))
            have HE562 := Lib.hid (RdX.keeps HE547.out (kG) (fun q hq hp e => by have hp : L1 ≤ q ∧ q < L2 ∧ q < L3 := hp; have e : L3 ≤ q := e; have := HN430.out; omega))
            have HE563 := Lib.hid (RdX.keeps HE548.out (kG) (fun q hq hp e => by have hp : L2 ≤ q ∧ q < L3 := hp; have e : L3 ≤ q := e; have := HN430.out; omega))
            have HE564 := Lib.hid (Nat.le_trans HE551.out (kG).size)
            have HS565 := Lib.hid (HS553.out.keeps kG (by have := HN430.out; show ¬ _ ≤ _; omega))
            have HK566 := Lib.hid (HK554.out.trans_new kG (fun q hq e => by have := HN430.out; omega))
            refine hK.out _ _ ?s_567 (fun hHeld => ?_)
            case s_567 => exact HMK431.out _ HS559.out
            clear hK KK
            (try simp only [Act.put, nm1, nm2, nm3])
            clear kG ho hk hf hln HS544 HX545 HE546 HE547 HE548 HE551 HE549 HE550 HE552 HSR HS553 HK554
            refine wpAnyH_one (i := 7) (by kernel_rfl) rfl (fun KK hK => ?_)
            go_simp
            refine hK.out _ _ ?s_568 (fun hHeld => ?_)
            case s_568 => exact HMK431.out _ HS559.out
            clear hK KK
            (try simp only [Act.put, nm1, nm2, nm3])
            refine wpAnyH_one (i := 8) (by kernel_rfl) rfl (fun KK hK => ?_)
            obtain ⟨Xc0, Xf0, Xc1, Xf1, Xc2, Xf2, Xc3, Xf3⟩ := cf4 HX560.out
            have hs0 : (w558.setCell ⟨WA.heap.size, 3, none⟩ (.slice ao' (i + 1) cap')).heap[WA.heap.size]? = some (.cells #[.slice ao0 n0 cp0, .slice ao1 n1 cp1, .slice ao2 n2 cp2, .slice ao' (i + 1) cap'] 57) := heap_set HX560.out 3 (.slice ao' (i + 1) cap')
            have hkE : Keeps (fun q => q = WA.heap.size) w558 (w558.setCell ⟨WA.heap.size, 3, none⟩ (.slice ao' (i + 1) cap')) := Keeps.setCell (S := fun q => q = WA.heap.size) (Keeps.refl _ _) (p := ⟨WA.heap.size, 3, none⟩) (fun _ => rfl) _
            have HX569 := Lib.hid hs0
            have HS570 := Lib.hid (((hkE).block _ (lt_of_heap HS559.out) (by have := HN430.out; show ¬ _ = _; omega)).trans HS559.out)
            have HE571 := Lib.hid (RdX.keeps HE561.out (hkE) (fun q hq hp e => by have hp : L0 ≤ q ∧ q < L1 ∧ q < L2 ∧ q < L3 := hp; have e : q = _ := e; have := HN430.out; omega))
            have HE572 := Lib.hid (RdX.keeps HE562.out (hkE) (fun q hq hp e => by have hp : L1 ≤ q ∧ q < L2 ∧ q < L3 := hp; have e : q = _ := e; have := HN430.out; omega))
            have HE573 := Lib.hid (RdX.keeps HE563.out (hkE) (fun q hq hp e => by have hp : L2 ≤ q ∧ q < L3 := hp; have e : q = _ := e; have := HN430.out; omega))
            have HE574 := Lib.hid (Nat.le_trans HE564.out (hkE).size)
            have HE575 := Lib.hid (QRow.keeps HRN.out (hkE) (fun q hq _ e => by have e : q = _ := e; have := HN430.out; omega))
            have HS576 := Lib.hid (HS565.out.keeps hkE (by have := HN430.out; show ¬ _ = _; omega))
            have HK577 := Lib.hid (HK566.out.trans_new hkE (fun q hq e => by have := HN430.out; omega))
            go_simp
            refine hK.out _ _ ?s_578 (fun hHeld => ?_)
            case s_578 => exact HMK431.out _ HS570.out
            clear hK KK
            (try simp only [Act.put, nm1, nm2, nm3])
            clear hkE hs0  HX560 HS559 HE561 HE562 HE563 HE564 HRN HS565 HK566
            clear Xc0 Xf0 Xc1 Xf1 Xc2 Xf2 Xc3 Xf3
            generalize (w558.setCell ⟨WA.heap.size, 3, none⟩ (.slice ao' (i + 1) cap')) = w579 at *
            refine wpAnyH_done (by kernel_rfl) ?_ _
            refine NoPanic.normal ?_
            clear hHeld HMK431
            have HN2 : Hid (StB w579 67 b (manyD (fun x => askD x s) (i + 1) x3).2 ∧ Keeps (fun q => q = b) W w579 ∧ L3 ≤ w579.heap.size ∧ w579.heap[W.heap.size]? = some (.cells #[.int .i64 s.prins, .int .i64 s.links, .int .i64 s.stmts, .int .i64 s.grow, .int .i64 s.shrink, .int .i64 s.asks] 32) ∧ w579.heap[WA.heap.size]? = some (.cells #[.slice ao0 n0 cp0, .slice ao1 n1 cp1, .slice ao2 n2 cp2, .slice ao' (i + 1) cap'] 57) ∧ RdX stmE w579 (.slice ao0 n0 cp0) l0 (fun k => L0 ≤ k ∧ k < L1 ∧ k < L2 ∧ k < L3) ∧ RdX rolE w579 (.slice ao1 n1 cp1) l1 (fun k => L1 ≤ k ∧ k < L2 ∧ k < L3) ∧ RdX rolE w579 (.slice ao2 n2 cp2) l2 (fun k => L2 ≤ k ∧ k < L3) ∧ QRow L3 w579 (.slice ao' (i + 1) cap') (manyD (fun x => askD x s) (i + 1) x3).1) := by rw [HNX.out.1, HNX.out.2.1]; exact ⟨HS576.out, HK577.out, HE574.out, HS570.out, HX569.out, HE571.out, HE572.out, HE573.out, HE575.out⟩
            clear HS576 HK577 HE574 HE575 HS570 HX569 HE571 HE572 HE573
            go_wp2_with fail
            go_roundg (n3 - (i + 1))
            case measure => omega
            case rel => exact ⟨i + 1, ao', cap', by omega, rfl, by go_num, HN2⟩
         ·obtain rfl : n3 = i := by omega
          have hiI : ¬ (n3 : Int) < s.asks := by have := HBD.out; omega
          have HT1 := Lib.hid HI.out.1
          have HK1 := Lib.hid HI.out.2.1
          have HSZ := Lib.hid HI.out.2.2.1
          have HBS := Lib.hid HI.out.2.2.2.1
          have HBP := Lib.hid HI.out.2.2.2.2.1
          have HEX0 := Lib.hid HI.out.2.2.2.2.2.1
          have HEX1 := Lib.hid HI.out.2.2.2.2.2.2.1
          have HEX2 := Lib.hid HI.out.2.2.2.2.2.2.2.1
          have HRO := Lib.hid HI.out.2.2.2.2.2.2.2.2
          clear HI
          rw [HM3.out] at HT1 HRO
          have HROW3 : Hid (QRX wr (.slice ao n3 cap) l3 (fun k => L3 ≤ k)) := HRO.out.rdX (fun k hk _ => hk)
          clear HRO HM3 HSU3 HLE3 HC3
          skip
          generalize ao = ao3 at *
          generalize cap = cp3 at *
          generalize wr = wl3 at *
          obtain ⟨Sc0, Sf0, Sc1, Sf1, Sc2, Sf2, Sc3, Sf3, Sc4, Sf4, Sc5, Sf5⟩ := cf6 HBS.out
          obtain ⟨Xc0, Xf0, Xc1, Xf1, Xc2, Xf2, Xc3, Xf3⟩ := cf4 HBP.out
          have HNC := Lib.hid (HNRM.out L0 wl3 (.slice ao0 n0 cp0) (.slice ao1 n1 cp1) (.slice ao2 n2 cp2) (.slice ao3 n3 cp3) ⟨HEX0.out.into (Keeps.refl (fun _ => False) _) (fun _ _ _ x => x) (fun q hq hp => by have hp : L0 ≤ q ∧ q < L1 ∧ q < L2 ∧ q < L3 := hp; have := HN430.out; show _ ≤ _; omega), HEX1.out.into (Keeps.refl (fun _ => False) _) (fun _ _ _ x => x) (fun q hq hp => by have hp : L1 ≤ q ∧ q < L2 ∧ q < L3 := hp; have := HN430.out; show _ ≤ _; omega), HEX2.out.into (Keeps.refl (fun _ => False) _) (fun _ _ _ x => x) (fun q hq hp => by have hp : L2 ≤ q ∧ q < L3 := hp; have := HN430.out; show _ ≤ _; omega), HROW3.out.into (Keeps.refl (fun _ => False) _) (fun _ _ _ x => x) (fun q hq hp => by have hp : L3 ≤ q := hp; have := HN430.out; show _ ≤ _; omega)⟩ (by have := HSZ.out; have := HN430.out; omega))
          clear HNRM HEX0 HEX1 HEX2 HROW3
          go_wp2_with fail
          refine HNC.out.mono ?_
          rintro e wz ⟨u0, u1, u2, u3, rfl, hk⟩
          have HS580 := Lib.hid (((hk.out.1).block _ (lt_of_heap HBS.out) (fun x => x)).trans HBS.out)
          have HX581 := Lib.hid (((hk.out.1).block _ (lt_of_heap HBP.out) (fun x => x)).trans HBP.out)
          have HSz := Lib.hid (HT1.out.keeps hk.out.1 (fun x => x))
          have HKz := Lib.hid (HK1.out.trans (hk.out.1.mono (fun _ _ x => x.elim)))
          obtain ⟨p0, p1, p2, p3⟩ := hk.out.2
          obtain ⟨uo0, uc0, hu0, hz0⟩ := id p0.1.1
          obtain ⟨uo1, uc1, hu1, hz1⟩ := id p1.1.1
          obtain ⟨uo2, uc2, hu2, hz2⟩ := id p2.1.1
          obtain ⟨lv3, d1, d2, d3⟩ := id p3
          obtain ⟨uo3, uc3, hu3, hz3⟩ := id d2.1.1
          clear hz0 hz1 hz2 hz3 d1 d2 d3
          obtain ⟨k0, hk0⟩ : ∃ n, np.1.length = n := ⟨_, rfl⟩
          obtain ⟨k1, hk1⟩ : ∃ n, np.2.1.length = n := ⟨_, rfl⟩
          obtain ⟨k2, hk2⟩ : ∃ n, np.2.2.1.length = n := ⟨_, rfl⟩
          obtain ⟨k3, hk3⟩ : ∃ n, lv3.length = n := ⟨_, rfl⟩
          rw [hk0] at hu0
          rw [hk1] at hu1
          rw [hk2] at hu2
          rw [hk3] at hu3
          subst hu0 hu1 hu2 hu3
          have HPX : Hid (PolX wz (.slice uo0 k0 uc0) (.slice uo1 k1 uc1) (.slice uo2 k2 uc2) (.slice uo3 k3 uc3) np (fun k => L0 ≤ k)) := hk.out.2
          clear p0 p1 p2 p3 hk0 hk1 hk2 hk3
          clear Sc0 Sf0 Sc1 Sf1 Sc2 Sf2 Sc3 Sf3 Sc4 Sf4 Sc5 Sf5 Xc0 Xf0 Xc1 Xf1 Xc2 Xf2 Xc3 Xf3
          clear HSZ
          clear hk HNC HBS HBP HT1 HK1
          obtain ⟨Sc0, Sf0, Sc1, Sf1, Sc2, Sf2, Sc3, Sf3, Sc4, Sf4, Sc5, Sf5⟩ := cf6 HS580.out
          obtain ⟨Xc0, Xf0, Xc1, Xf1, Xc2, Xf2, Xc3, Xf3⟩ := cf4 HX581.out
          obtain ⟨hs0, hkE⟩ := sx4 HX581.out (.slice uo0 k0 uc0) (.slice uo1 k1 uc1) (.slice uo2 k2 uc2) (.slice uo3 k3 uc3)
          have HX582 := Lib.hid hs0
          have HS583 := Lib.hid (((hkE).block _ (lt_of_heap HS580.out) (by have := HN430.out; show ¬ _ = _; omega)).trans HS580.out)
          have HE584 := Lib.hid (PolX.into HPX.out (hkE) (fun q hq hp e => by have hp : L0 ≤ q := hp; have e : q = _ := e; have := HN430.out; omega) (fun _ _ p => p))
          have HS585 := Lib.hid (HSz.out.keeps hkE (by have := HN430.out; show ¬ _ = _; omega))
          have HK586 := Lib.hid (HKz.out.trans_new hkE (fun q hq e => by have := HN430.out; omega))
          clear hkE hs0 HX581 HS580 HPX HSz HKz
          go_wp2_with fail
          clear Sc0 Sf0 Sc1 Sf1 Sc2 Sf2 Sc3 Sf3 Sc4 Sf4 Sc5 Sf5 Xc0 Xf0 Xc1 Xf1 Xc2 Xf2 Xc3 Xf3
          generalize ((((wz.setCell ⟨WA.heap.size, 0, none⟩ (.slice uo0 k0 uc0)).setCell ⟨WA.heap.size, 1, none⟩ (.slice uo1 k1 uc1)).setCell ⟨WA.heap.size, 2, none⟩ (.slice uo2 k2 uc2)).setCell ⟨WA.heap.size, 3, none⟩ (.slice uo3 k3 uc3)) = WE at *
          obtain ⟨Xc0, Xf0, Xc1, Xf1, Xc2, Xf2, Xc3, Xf3⟩ := cf4 HX582.out
          refine bodyPost_ret (v := .agg #[.slice uo0 k0 uc0, .slice uo1 k1 uc1, .slice uo2 k2 uc2, .slice uo3 k3 uc3]) (by simp [results, Tryz.results20, go_sem, *]) rfl ?_
          exact ⟨_, _, _, _, rfl, HS585.out, HK586.out, HE584.out.into (Keeps.refl (fun _ => False) _) (fun _ _ _ x => x) (fun q hq hp => by have hp : L0 ≤ q := hp; have := HN430.out; show _ ≤ _; omega)⟩
end Go.Proofs.YtcdfpnlaklaafaaGreat
