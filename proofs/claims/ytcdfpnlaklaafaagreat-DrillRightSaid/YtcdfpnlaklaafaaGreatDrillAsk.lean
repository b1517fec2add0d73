/-
 The drawing of queries: the program's.
-/
import Derived.Test.YtcdfpnlaklaafaaGreatDrillWho
import Derived.Test.YtcdfpnlaklaafaaGreatMA
import Derived.Deep.RegionHeld3
set_option linter.unusedVariables false
set_option linter.unusedSimpArgs false
set_option linter.unnecessarySimpa false
namespace Go.Proofs.YtcdfpnlaklaafaaGreat
open Go.ChangeShapes Go.WideShapes Go.ChangeAt Go.RowKit Go.Deep
/-- A query's value: who is asked of is a slice. -/
def qryV (q : Qry) (v : Value) : Value := .agg #[.int .i64 q.1, .string ⟨q.2.1.1.toArray⟩, .string ⟨q.2.1.2.toArray⟩, .string ⟨q.2.2.1.1.toArray⟩, .string ⟨q.2.2.1.2.toArray⟩, v]
/-- A row of texts that lies behind a block. -/
def RowAt (lo : Nat) (w : World) (v : Value) (l : List Str) : Prop := ReadsS w v l ∧ ∀ k, v.ownBlock = some k → lo ≤ k ∧ k < w.heap.size
theorem RowAt.keeps {lo : Nat} {w w' : World} {v : Value} {l : List Str} (h : RowAt lo w v l) {S : Nat → Prop} (hk : Keeps S w w') (hs : ∀ q, lo ≤ q → q < w.heap.size → ¬ S q) : RowAt lo w' v l := by
 obtain ⟨⟨ao, cap, rfl, hle, hr⟩, hb⟩ := h
 refine ⟨⟨ao, cap, rfl, hle, fun h0 => ?_⟩, fun k hk2 => ⟨(hb k hk2).1, Nat.lt_of_lt_of_le (hb k hk2).2 hk.size⟩⟩
 obtain ⟨g, off, rfl, h2, h3⟩ := hr h0
 have hg := hb g rfl
 exact ⟨g, off, rfl, Nat.lt_of_lt_of_le h2 hk.size, fun j x hj => (hk.cell (p := ⟨g, off + j, none⟩) h2 (hs g hg.1 h2)).trans (h3 j x hj)⟩
theorem own_of_reads {w : World} {v : Value} {l : List Str} (h : ReadsS w v l) (hl : 0 < l.length) : ∀ k, v.ownBlock = some k → k < w.heap.size := by
 obtain ⟨ao, cap, rfl, hle, hr⟩ := h
 intro k hk
 obtain ⟨g, off, rfl, h2, h3⟩ := hr hl
 simp [Value.ownBlock] at hk
 omega
/-- A row without texts. -/
theorem RowAt.nil (lo : Nat) (w : World) : RowAt lo w (.slice none 0 0) [] := ⟨⟨none, 0, rfl, Nat.le_refl _, fun h => absurd h (by simp)⟩, fun k hk => by simp [Value.ownBlock] at hk⟩
/-- What a drawing of a query leaves. -/
def AskTo (W : World) (T : TypeId) (b : Nat) (q : Qry) (y : Int) (e : Ending) (W' : World) : Prop := ∃ v', e = .returned (qryV q v') ∧ Hid (StB W' T b y ∧ Keeps (fun q => q = b) W W' ∧ RowAt W.heap.size W' v' q.2.2.2)
section
variable {W : World} {b : Nat} {x : Int}
set_option maxRecDepth 100000
set_option maxHeartbeats 6400000
theorem dask_spec {s : Shp} (h : StB W 67 b x) :
  Calls Tryz.prog 17 #[.pointer (some ⟨b, 0, none⟩), ShpV s] W (AskTo W 67 b (orD s noQry askD x).1 (orD s noQry askD x).2) := by
 have HM : Hid (∀ W : World, Calls Tryz.prog 27 #[.pointer (some ⟨b, 0, none⟩), ShpV s] W fun e W' => e = .returned (.bool (fitsD s)) ∧ Hid (Keeps (fun _ => False) W W')) := fun W => dmay_spec s
 have hbl := lt_of_heap h.1
 have hal := (MapKept.heap_alloc W (.cells #[.int .i64 s.prins, .int .i64 s.links, .int .i64 s.stmts, .int .i64 s.grow, .int .i64 s.shrink, .int .i64 s.asks] 32)).1
 obtain ⟨WA, hWA⟩ : ∃ WA, W.alloc (.cells #[.int .i64 s.prins, .int .i64 s.links, .int .i64 s.stmts, .int .i64 s.grow, .int .i64 s.shrink, .int .i64 s.asks] 32) = WA := ⟨_, rfl⟩
 have hkA : Keeps (fun _ => False) W WA := by rw [← hWA]; exact (Keeps.refl _ _).alloc _
 have hsz : WA.heap.size = W.heap.size + 1 := by rw [← hWA]; simp
 rw [hWA] at hal
 have hal2 := (MapKept.heap_alloc WA (.cells #[.int .i64 0, .string ⟨#[]⟩, .string ⟨#[]⟩, .string ⟨#[]⟩, .string ⟨#[]⟩, .slice none 0 0] 49)).1
 obtain ⟨WB, hWB⟩ : ∃ WB, WA.alloc (.cells #[.int .i64 0, .string ⟨#[]⟩, .string ⟨#[]⟩, .string ⟨#[]⟩, .string ⟨#[]⟩, .slice none 0 0] 49) = WB := ⟨_, rfl⟩
 have hkB : Keeps (fun _ => False) WA WB := by rw [← hWB]; exact (Keeps.refl _ _).alloc _
 rw [hWB] at hal2
 have HS0 : Hid (WB.heap[W.heap.size]? = some (.cells #[.int .i64 s.prins, .int .i64 s.links, .int .i64 s.stmts, .int .i64 s.grow, .int .i64 s.shrink, .int .i64 s.asks] 32)) := (hkB.block _ (lt_of_heap hal) (fun x => x)).trans hal
 have HX0 := Lib.hid hal2
 have HK0 := Lib.hid (hkA.trans hkB)
 have HST0 := Lib.hid (h.keeps HK0.out (fun x => x))
 have HN : Hid (W.heap.size ≠ b ∧ WA.heap.size ≠ b ∧ WA.heap.size ≠ W.heap.size ∧ W.heap.size ≤ WA.heap.size ∧ b < W.heap.size) := ⟨by omega, by omega, by omega, by omega, hbl⟩
 clear hal hal2 hkA hkB hsz hbl h
 cases hf : fitsD s with
 | false =>
  have HE : Hid (orD s noQry askD x = (noQry, x)) := by unfold orD; rw [hf]; exact rfl
  rw [HE.out]
  rw [hf] at HM
  clear hf HE
  unfold ShpV at *
  obtain ⟨Sc0, Sf0, Sc1, Sf1, Sc2, Sf2, Sc3, Sf3, Sc4, Sf4, Sc5, Sf5⟩ := cf6 HS0.out
  obtain ⟨Xc0, Xf0, Xc1, Xf1, Xc2, Xf2, Xc3, Xf3, Xc4, Xf4, Xc5, Xf5⟩ := cf6 HX0.out
  go_enter Tryz.func17, Tryz.ntmps17
  go_wp2_with fail
  refine (HM.out _).mono ?_
  rintro e w1 ⟨rfl, hk⟩
  have HS2 := Lib.hid (((hk.out).block _ (lt_of_heap HS0.out) (fun x => x)).trans HS0.out)
  have HX3 := Lib.hid (((hk.out).block _ (lt_of_heap HX0.out) (fun x => x)).trans HX0.out)
  have HS4 := Lib.hid (HST0.out.keeps hk.out (fun x => x))
  have HK5 := Lib.hid (HK0.out.trans hk.out)
  clear Sc0 Sf0 Sc1 Sf1 Sc2 Sf2 Sc3 Sf3 Sc4 Sf4 Sc5 Sf5 Xc0 Xf0 Xc1 Xf1 Xc2 Xf2 Xc3 Xf3 Xc4 Xf4 Xc5 Xf5
  clear hk HS0 HX0 HST0 HK0
  clear HM hWA hWB
  obtain ⟨Sc0, Sf0, Sc1, Sf1, Sc2, Sf2, Sc3, Sf3, Sc4, Sf4, Sc5, Sf5⟩ := cf6 HS2.out
  obtain ⟨Xc0, Xf0, Xc1, Xf1, Xc2, Xf2, Xc3, Xf3, Xc4, Xf4, Xc5, Xf5⟩ := cf6 HX3.out
  obtain ⟨hs0, hkE⟩ := sx6 HX3.out (.int .i64 0) (.string ⟨#[]⟩) (.string ⟨#[]⟩) (.string ⟨#[]⟩) (.string ⟨#[]⟩) (.slice none 0 0)
  have HX6 := Lib.hid hs0
  have HS7 := Lib.hid (((hkE).block _ (lt_of_heap HS2.out) (by have := HN.out; show ¬ _ = _; omega)).trans HS2.out)
  have HS8 := Lib.hid (HS4.out.keeps hkE (by have := HN.out; show ¬ _ = _; omega))
  have HK9 := Lib.hid (HK5.out.trans_new hkE (fun q hq e => by have := HN.out; omega))
  clear hkE hs0 HX3 HS2 HS4 HK5
  go_wp2_with fail
  clear Sc0 Sf0 Sc1 Sf1 Sc2 Sf2 Sc3 Sf3 Sc4 Sf4 Sc5 Sf5 Xc0 Xf0 Xc1 Xf1 Xc2 Xf2 Xc3 Xf3 Xc4 Xf4 Xc5 Xf5
  generalize ((((((w1.setCell ⟨WA.heap.size, 0, none⟩ (.int .i64 0)).setCell ⟨WA.heap.size, 1, none⟩ (.string ⟨#[]⟩)).setCell ⟨WA.heap.size, 2, none⟩ (.string ⟨#[]⟩)).setCell ⟨WA.heap.size, 3, none⟩ (.string ⟨#[]⟩)).setCell ⟨WA.heap.size, 4, none⟩ (.string ⟨#[]⟩)).setCell ⟨WA.heap.size, 5, none⟩ (.slice none 0 0)) = WE at *
  obtain ⟨Xc0, Xf0, Xc1, Xf1, Xc2, Xf2, Xc3, Xf3, Xc4, Xf4, Xc5, Xf5⟩ := cf6 HX6.out
  refine bodyPost_ret (v := .agg #[.int .i64 0, .string ⟨#[]⟩, .string ⟨#[]⟩, .string ⟨#[]⟩, .string ⟨#[]⟩, .slice none 0 0]) (by simp [results, Tryz.results17, go_sem, *]) rfl ?_
  exact ⟨.slice none 0 0, rfl, HS8.out, HK9.out.mono (fun _ _ x => x.elim), RowAt.nil _ _⟩
 | true =>
  obtain ⟨⟨k, x1⟩, e1⟩ : ∃ q, belD x 6 = q := ⟨_, rfl⟩
  have hk := belD_range (x := x) (n := 6) (by omega)
  rw [e1] at hk
  simp only at hk
  obtain ⟨⟨⟨a1, a2⟩, x2⟩, e2⟩ : ∃ q, rolD x1 s = q := ⟨_, rfl⟩
  have HP1 : Hid (∀ W, StB W 67 b x → Calls Tryz.prog 10 #[.pointer (some ⟨b, 0, none⟩), .int .i64 6] W (DrTo W 67 b (.int .i64 k) x1)) := fun W h => dbelow_at (by omega) e1 W h
  have HP2 : Hid (∀ W, StB W 67 b x1 → Calls Tryz.prog 12 #[.pointer (some ⟨b, 0, none⟩), ShpV s] W (DrTo W 67 b (.agg #[.string ⟨a1.toArray⟩, .string ⟨a2.toArray⟩]) x2)) := fun W h => drole_at hf e2 W h
  rw [hf] at HM
  have hkk : k = 0 ∨ k = 1 ∨ k = 2 ∨ k = 3 ∨ k = 4 ∨ k = 5 := by omega
  clear hk
  rcases hkk with rfl | rfl | rfl | rfl | rfl | rfl
  ·skip
   obtain ⟨⟨n, x3⟩, e3⟩ : ∃ q, belD x2 2 = q := ⟨_, rfl⟩
   have hn := belD_range (x := x2) (n := 2) (by omega)
   rw [e3] at hn
   simp only at hn
   obtain ⟨m, hm⟩ : ∃ m : Nat, (m : Int) = 1 + n := ⟨(1 + n).toNat, by omega⟩
   have hmt : (1 + n).toNat = m := by omega
   have hm10 : m ≤ 1000 := by omega
   have HP3 : Hid (∀ W, StB W 67 b x2 → Calls Tryz.prog 10 #[.pointer (some ⟨b, 0, none⟩), .int .i64 2] W (DrTo W 67 b (.int .i64 n) x3)) := fun W h => by
    have q := dbelow_at (by omega) e3 W h
    exact q
   obtain ⟨⟨wl0, x4⟩, e4⟩ : ∃ q, whoD s m x3 = q := ⟨_, rfl⟩
   obtain ⟨wl, hwl⟩ : ∃ q, sortO (· < ·) wl0 = q := ⟨_, rfl⟩
   have hwlen : wl0.length = m := by have q := who_len s m x3; rw [e4] at q; exact q
   have HP4 : Hid (∀ W, StB W 67 b x3 → Calls Tryz.prog 34 #[.pointer (some ⟨b, 0, none⟩), ShpV s, .int .i64 (m : Int)] W (WhoTo W 67 b wl x4)) := fun W h => by
    have q := dwho_spec hf hm10 h
    rw [e4] at q
    rw [hwl] at q
    exact q
   have hw : IntKind.i64.wrap (1 + n) = (m : Int) := by rw [hm]; exact IntWalk.i64_in _ (by omega)
   have HE : Hid (orD s noQry askD x = ((1, (a1, a2), ([], []), wl), x4)) := by
    show _ = _
    unfold orD
    rw [if_pos hf]
    unfold askD
    simp [e1, e2, e3, hmt, e4, hwl, noRol]
   rw [HE.out]
   clear HE e1 e2 e3 e4 hf hwl hmt hm
   unfold ShpV at *
   obtain ⟨Sc0, Sf0, Sc1, Sf1, Sc2, Sf2, Sc3, Sf3, Sc4, Sf4, Sc5, Sf5⟩ := cf6 HS0.out
   obtain ⟨Xc0, Xf0, Xc1, Xf1, Xc2, Xf2, Xc3, Xf3, Xc4, Xf4, Xc5, Xf5⟩ := cf6 HX0.out
   go_enter Tryz.func17, Tryz.ntmps17
   go_wp2_with fail
   refine (HM.out _).mono ?_
   rintro e w10 ⟨rfl, hk⟩
   have HS11 := Lib.hid (((hk.out).block _ (lt_of_heap HS0.out) (fun x => x)).trans HS0.out)
   have HX12 := Lib.hid (((hk.out).block _ (lt_of_heap HX0.out) (fun x => x)).trans HX0.out)
   have HS13 := Lib.hid (HST0.out.keeps hk.out (fun x => x))
   have HK14 := Lib.hid (HK0.out.trans hk.out)
   clear Sc0 Sf0 Sc1 Sf1 Sc2 Sf2 Sc3 Sf3 Sc4 Sf4 Sc5 Sf5 Xc0 Xf0 Xc1 Xf1 Xc2 Xf2 Xc3 Xf3 Xc4 Xf4 Xc5 Xf5
   clear hk HS0 HX0 HST0 HK0
   clear HM hWA hWB
   obtain ⟨Sc0, Sf0, Sc1, Sf1, Sc2, Sf2, Sc3, Sf3, Sc4, Sf4, Sc5, Sf5⟩ := cf6 HS11.out
   obtain ⟨Xc0, Xf0, Xc1, Xf1, Xc2, Xf2, Xc3, Xf3, Xc4, Xf4, Xc5, Xf5⟩ := cf6 HX12.out
   go_wp2_with fail
   refine (HP1.out _ HS13.out).mono ?_
   rintro e w15 ⟨rfl, hk⟩
   have HS16 := Lib.hid (((hk.out.2).block _ (lt_of_heap HS11.out) (by have := HN.out; show ¬ _ = _; omega)).trans HS11.out)
   have HX17 := Lib.hid (((hk.out.2).block _ (lt_of_heap HX12.out) (by have := HN.out; show ¬ _ = _; omega)).trans HX12.out)
   have HS18 := Lib.hid (hk.out.1)
   have HK19 := Lib.hid ((HK14.out.mono (fun _ _ x => x.elim)).trans hk.out.2)
   clear Sc0 Sf0 Sc1 Sf1 Sc2 Sf2 Sc3 Sf3 Sc4 Sf4 Sc5 Sf5 Xc0 Xf0 Xc1 Xf1 Xc2 Xf2 Xc3 Xf3 Xc4 Xf4 Xc5 Xf5
   clear hk HP1 HS11 HX12 HS13 HK14
   obtain ⟨Sc0, Sf0, Sc1, Sf1, Sc2, Sf2, Sc3, Sf3, Sc4, Sf4, Sc5, Sf5⟩ := cf6 HS16.out
   obtain ⟨Xc0, Xf0, Xc1, Xf1, Xc2, Xf2, Xc3, Xf3, Xc4, Xf4, Xc5, Xf5⟩ := cf6 HX17.out
   have hs0 : (w15.setCell ⟨WA.heap.size, 0, none⟩ (.int .i64 1)).heap[WA.heap.size]? = some (.cells #[.int .i64 1, .string ⟨#[]⟩, .string ⟨#[]⟩, .string ⟨#[]⟩, .string ⟨#[]⟩, .slice none 0 0] 49) := heap_set (HX17.out) 0 (.int .i64 1)
   have hkE : Keeps (fun q => q = WA.heap.size) w15 (w15.setCell ⟨WA.heap.size, 0, none⟩ (.int .i64 1)) := (Keeps.setCell (S := fun q => q = WA.heap.size) (Keeps.refl _ _) (p := ⟨WA.heap.size, 0, none⟩) (fun _ => rfl) _)
   have HX21 := Lib.hid hs0
   have HS22 := Lib.hid (((hkE).block _ (lt_of_heap HS16.out) (by have := HN.out; show ¬ _ = _; omega)).trans HS16.out)
   have HS23 := Lib.hid (HS18.out.keeps hkE (by have := HN.out; show ¬ _ = _; omega))
   have HK24 := Lib.hid (HK19.out.trans_new hkE (fun q hq e => by have := HN.out; omega))
   clear hkE hs0 HX17 HS16 HS18 HK19
   go_upto_region 4 with fail
   clear Sc0 Sf0 Sc1 Sf1 Sc2 Sf2 Sc3 Sf3 Sc4 Sf4 Sc5 Sf5 Xc0 Xf0 Xc1 Xf1 Xc2 Xf2 Xc3 Xf3 Xc4 Xf4 Xc5 Xf5
   generalize (w15.setCell ⟨WA.heap.size, 0, none⟩ (.int .i64 1)) = w20 at *
   obtain ⟨Sc0, Sf0, Sc1, Sf1, Sc2, Sf2, Sc3, Sf3, Sc4, Sf4, Sc5, Sf5⟩ := cf6 HS22.out
   obtain ⟨Xc0, Xf0, Xc1, Xf1, Xc2, Xf2, Xc3, Xf3, Xc4, Xf4, Xc5, Xf5⟩ := cf6 HX21.out
   go_wp2_with fail
   refine (HP2.out _ HS23.out).mono ?_
   rintro e w25 ⟨rfl, hk⟩
   have HS26 := Lib.hid (((hk.out.2).block _ (lt_of_heap HS22.out) (by have := HN.out; show ¬ _ = _; omega)).trans HS22.out)
   have HX27 := Lib.hid (((hk.out.2).block _ (lt_of_heap HX21.out) (by have := HN.out; show ¬ _ = _; omega)).trans HX21.out)
   have HS28 := Lib.hid (hk.out.1)
   have HK29 := Lib.hid (HK24.out.trans hk.out.2)
   clear Sc0 Sf0 Sc1 Sf1 Sc2 Sf2 Sc3 Sf3 Sc4 Sf4 Sc5 Sf5 Xc0 Xf0 Xc1 Xf1 Xc2 Xf2 Xc3 Xf3 Xc4 Xf4 Xc5 Xf5
   clear hk HP2 HS22 HX21 HS23 HK24
   obtain ⟨Sc0, Sf0, Sc1, Sf1, Sc2, Sf2, Sc3, Sf3, Sc4, Sf4, Sc5, Sf5⟩ := cf6 HS26.out
   obtain ⟨Xc0, Xf0, Xc1, Xf1, Xc2, Xf2, Xc3, Xf3, Xc4, Xf4, Xc5, Xf5⟩ := cf6 HX27.out
   have hs0 : (w25.setCell ⟨WA.heap.size, 1, none⟩ (.string ⟨a1.toArray⟩)).heap[WA.heap.size]? = some (.cells #[.int .i64 1, .string ⟨a1.toArray⟩, .string ⟨#[]⟩, .string ⟨#[]⟩, .string ⟨#[]⟩, .slice none 0 0] 49) := heap_set (HX27.out) 1 (.string ⟨a1.toArray⟩)
   have hs1 : ((w25.setCell ⟨WA.heap.size, 1, none⟩ (.string ⟨a1.toArray⟩)).setCell ⟨WA.heap.size, 2, none⟩ (.string ⟨a2.toArray⟩)).heap[WA.heap.size]? = some (.cells #[.int .i64 1, .string ⟨a1.toArray⟩, .string ⟨a2.toArray⟩, .string ⟨#[]⟩, .string ⟨#[]⟩, .slice none 0 0] 49) := heap_set (hs0) 2 (.string ⟨a2.toArray⟩)
   have hkE : Keeps (fun q => q = WA.heap.size) w25 ((w25.setCell ⟨WA.heap.size, 1, none⟩ (.string ⟨a1.toArray⟩)).setCell ⟨WA.heap.size, 2, none⟩ (.string ⟨a2.toArray⟩)) := (Keeps.setCell (S := fun q => q = WA.heap.size) (Keeps.setCell (S := fun q => q = WA.heap.size) (Keeps.refl _ _) (p := ⟨WA.heap.size, 1, none⟩) (fun _ => rfl) _) (p := ⟨WA.heap.size, 2, none⟩) (fun _ => rfl) _)
   have HX31 := Lib.hid hs1
   have HS32 := Lib.hid (((hkE).block _ (lt_of_heap HS26.out) (by have := HN.out; show ¬ _ = _; omega)).trans HS26.out)
   have HS33 := Lib.hid (HS28.out.keeps hkE (by have := HN.out; show ¬ _ = _; omega))
   have HK34 := Lib.hid (HK29.out.trans_new hkE (fun q hq e => by have := HN.out; omega))
   clear hkE hs0 hs1 HX27 HS26 HS28 HK29
   go_upto_region 5 with fail
   clear Sc0 Sf0 Sc1 Sf1 Sc2 Sf2 Sc3 Sf3 Sc4 Sf4 Sc5 Sf5 Xc0 Xf0 Xc1 Xf1 Xc2 Xf2 Xc3 Xf3 Xc4 Xf4 Xc5 Xf5
   generalize ((w25.setCell ⟨WA.heap.size, 1, none⟩ (.string ⟨a1.toArray⟩)).setCell ⟨WA.heap.size, 2, none⟩ (.string ⟨a2.toArray⟩)) = w30 at *
   obtain ⟨Sc0, Sf0, Sc1, Sf1, Sc2, Sf2, Sc3, Sf3, Sc4, Sf4, Sc5, Sf5⟩ := cf6 HS32.out
   obtain ⟨Xc0, Xf0, Xc1, Xf1, Xc2, Xf2, Xc3, Xf3, Xc4, Xf4, Xc5, Xf5⟩ := cf6 HX31.out
   go_upto_region 8 with fail
   clear Sc0 Sf0 Sc1 Sf1 Sc2 Sf2 Sc3 Sf3 Sc4 Sf4 Sc5 Sf5 Xc0 Xf0 Xc1 Xf1 Xc2 Xf2 Xc3 Xf3 Xc4 Xf4 Xc5 Xf5
   have HMK35 : Hid (∀ w' : World, w'.heap[W.heap.size]? = some (.cells #[.int .i64 s.prins, .int .i64 s.links, .int .i64 s.stmts, .int .i64 s.grow, .int .i64 s.shrink, .int .i64 s.asks] 32) → w'.cell? ⟨W.heap.size, 0, none⟩ = some (.int .i64 s.prins) ∧ w'.cell? ⟨W.heap.size, 1, none⟩ = some (.int .i64 s.links) ∧ w'.cell? ⟨W.heap.size, 2, none⟩ = some (.int .i64 s.stmts) ∧ w'.cell? ⟨W.heap.size, 3, none⟩ = some (.int .i64 s.grow) ∧ w'.cell? ⟨W.heap.size, 4, none⟩ = some (.int .i64 s.shrink) ∧ w'.cell? ⟨W.heap.size, 5, none⟩ = some (.int .i64 s.asks) ∧ Hid (w'.heap[W.heap.size]? = some (.cells #[.int .i64 s.prins, .int .i64 s.links, .int .i64 s.stmts, .int .i64 s.grow, .int .i64 s.shrink, .int .i64 s.asks] 32))) := fun w' h0 => ⟨(by rw [cell_of_heap h0]; rfl), (by rw [cell_of_heap h0]; rfl), (by rw [cell_of_heap h0]; rfl), (by rw [cell_of_heap h0]; rfl), (by rw [cell_of_heap h0]; rfl), (by rw [cell_of_heap h0]; rfl), Lib.hid h0⟩
   have hkd : Keeps (fun _ => False) w30 w30.drew := (Keeps.refl _ _).drew
   have HS36 := Lib.hid (((hkd).block _ (lt_of_heap HS32.out) (fun x => x)).trans HS32.out)
   have HX37 := Lib.hid (((hkd).block _ (lt_of_heap HX31.out) (fun x => x)).trans HX31.out)
   have HS38 := Lib.hid (HS33.out.keeps hkd (fun x => x))
   have HK39 := Lib.hid (HK34.out.drew)
   have hS0 := HMK35.out w30.drew HS36.out
   clear hkd HS32 HX31 HS33 HK34
   refine wp_region_noPanic ?_
   refine wp_region_held_drew (S := (fun w' => w'.cell? ⟨W.heap.size, 0, none⟩ = some (.int .i64 s.prins) ∧ w'.cell? ⟨W.heap.size, 1, none⟩ = some (.int .i64 s.links) ∧ w'.cell? ⟨W.heap.size, 2, none⟩ = some (.int .i64 s.stmts) ∧ w'.cell? ⟨W.heap.size, 3, none⟩ = some (.int .i64 s.grow) ∧ w'.cell? ⟨W.heap.size, 4, none⟩ = some (.int .i64 s.shrink) ∧ w'.cell? ⟨W.heap.size, 5, none⟩ = some (.int .i64 s.asks) ∧ Hid (w'.heap[W.heap.size]? = some (.cells #[.int .i64 s.prins, .int .i64 s.links, .int .i64 s.stmts, .int .i64 s.grow, .int .i64 s.shrink, .int .i64 s.asks] 32)))) (by kernel_rfl) hS0 (fun hHeld => ?_)
   clear hS0
   generalize w30.drew = w40 at *
   refine wpAnyH_take_at (i := 0) (v := ?v0_41) rfl (by kernel_rfl) (by kernel_rfl) (by kernel_rfl) (fun _ _ _ h => h) (Or.inl ⟨by rfl, ?y0_41⟩) hHeld ?r0_41
   case y0_41 => (intro w hSw; (try dsimp only at hSw); go_simp; first | done | with_reducible rfl)
   (try simp only [Act.put, nm1, nm2, nm3])
   refine wpAnyH_take_at (i := 1) (v := ?v1_42) rfl (by kernel_rfl) (by kernel_rfl) (by kernel_rfl) (fun _ _ _ h => h) (Or.inl ⟨by rfl, ?y1_42⟩) hHeld ?r1_42
   case y1_42 => (intro w hSw; (try dsimp only at hSw); go_simp; first | done | with_reducible rfl)
   (try simp only [Act.put, nm1, nm2, nm3])
   refine wpAnyH_take_at (i := 2) (v := ?v2_43) rfl (by kernel_rfl) (by kernel_rfl) (by kernel_rfl) (fun _ _ _ h => h) (Or.inl ⟨by rfl, ?y2_43⟩) hHeld ?r2_43
   case y2_43 => (intro w hSw; (try dsimp only at hSw); go_simp; first | done | with_reducible rfl)
   (try simp only [Act.put, nm1, nm2, nm3])
   refine wpAnyH_one (i := 3) (by kernel_rfl) rfl (fun KK hK => ?_)
   go_simp
   refine (HP3.out _ HS38.out).mono ?_
   rintro e w44 ⟨rfl, hk⟩
   have HS45 := Lib.hid (((hk.out.2).block _ (lt_of_heap HS36.out) (by have := HN.out; show ¬ _ = _; omega)).trans HS36.out)
   have HX46 := Lib.hid (((hk.out.2).block _ (lt_of_heap HX37.out) (by have := HN.out; show ¬ _ = _; omega)).trans HX37.out)
   have HS47 := Lib.hid (hk.out.1)
   have HK48 := Lib.hid (HK39.out.trans (hk.out.2))
   clear hk HP3 HS36 HX37 HS38 HK39
   go_simp
   refine hK.out _ _ ?s_49 (fun hHeld => ?_)
   case s_49 => exact HMK35.out _ HS45.out
   clear hK KK
   (try simp only [Act.put, nm1, nm2, nm3])
   refine wpAnyH_one (i := 4) (by kernel_rfl) rfl (fun KK hK => ?_)
   go_simp
   refine hK.out _ _ ?s_50 (fun hHeld => ?_)
   case s_50 => exact HMK35.out _ HS45.out
   clear hK KK
   (try simp only [Act.put, nm1, nm2, nm3])
   refine wpAnyH_one (i := 5) (by kernel_rfl) rfl (fun KK hK => ?_)
   go_simp
   refine (HP4.out _ HS47.out).mono ?_
   rintro e w51 ⟨wv, rfl, hk⟩
   obtain ⟨wao, wcap, hwv, hwv2⟩ := id hk.out.2.2.1
   clear hwv2
   subst hwv
   have HS52 := Lib.hid (((hk.out.2.1).block _ (lt_of_heap HS45.out) (by have := HN.out; show ¬ _ = _; omega)).trans HS45.out)
   have HX53 := Lib.hid (((hk.out.2.1).block _ (lt_of_heap HX46.out) (by have := HN.out; show ¬ _ = _; omega)).trans HX46.out)
   have HS54 := Lib.hid (hk.out.1)
   have HK55 := Lib.hid (HK48.out.trans (hk.out.2.1))
   have HRW : Hid (RowAt (WA.heap.size + 1) w51 (.slice wao wl.length wcap) wl) := ⟨hk.out.2.2.1, fun k hk2 => ⟨by have q1 := hk.out.2.2.2.1 k hk2; have q2 := lt_of_heap HX46.out; omega, hk.out.2.2.2.2 k hk2⟩⟩
   clear hk HP4 HS45 HX46 HS47 HK48
   go_simp
   refine hK.out _ _ ?s_56 (fun hHeld => ?_)
   case s_56 => exact HMK35.out _ HS52.out
   clear hK KK
   (try simp only [Act.put, nm1, nm2, nm3])
   refine wpAnyH_one (i := 6) (by kernel_rfl) rfl (fun KK hK => ?_)
   go_simp
   refine hK.out _ _ ?s_57 (fun hHeld => ?_)
   case s_57 => exact HMK35.out _ HS52.out
   clear hK KK
   (try simp only [Act.put, nm1, nm2, nm3])
   refine wpAnyH_one (i := 7) (by kernel_rfl) rfl (fun KK hK => ?_)
   obtain ⟨Xc0, Xf0, Xc1, Xf1, Xc2, Xf2, Xc3, Xf3, Xc4, Xf4, Xc5, Xf5⟩ := cf6 HX53.out
   have hs0 : (w51.setCell ⟨WA.heap.size, 5, none⟩ (.slice wao wl.length wcap)).heap[WA.heap.size]? = some (.cells #[.int .i64 1, .string ⟨a1.toArray⟩, .string ⟨a2.toArray⟩, .string ⟨#[]⟩, .string ⟨#[]⟩, .slice wao wl.length wcap] 49) := heap_set HX53.out 5 (.slice wao wl.length wcap)
   have hkE : Keeps (fun q => q = WA.heap.size) w51 (w51.setCell ⟨WA.heap.size, 5, none⟩ (.slice wao wl.length wcap)) := Keeps.setCell (S := fun q => q = WA.heap.size) (Keeps.refl _ _) (p := ⟨WA.heap.size, 5, none⟩) (fun _ => rfl) _
   have HX58 := Lib.hid hs0
   have HS59 := Lib.hid (((hkE).block _ (lt_of_heap HS52.out) (by have := HN.out; show ¬ _ = _; omega)).trans HS52.out)
   have HE60 := Lib.hid (RowAt.keeps HRW.out (hkE) (fun q hq _ => by have := HN.out; show ¬ _ = _; omega))
   have HS61 := Lib.hid (HS54.out.keeps hkE (by have := HN.out; show ¬ _ = _; omega))
   have HK62 := Lib.hid (HK55.out.trans_new hkE (fun q hq e => by have := HN.out; omega))
   go_simp
   refine hK.out _ _ ?s_63 (fun hHeld => ?_)
   case s_63 => exact HMK35.out _ HS59.out
   clear hK KK
   (try simp only [Act.put, nm1, nm2, nm3])
   clear hkE hs0  HX53 HS52 HRW HS54 HK55
   clear Xc0 Xf0 Xc1 Xf1 Xc2 Xf2 Xc3 Xf3 Xc4 Xf4 Xc5 Xf5
   generalize (w51.setCell ⟨WA.heap.size, 5, none⟩ (.slice wao wl.length wcap)) = w64 at *
   refine wpAnyH_done (by kernel_rfl) ?_ _
   refine NoPanic.normal ?_
   clear hHeld HMK35
   obtain ⟨Sc0, Sf0, Sc1, Sf1, Sc2, Sf2, Sc3, Sf3, Sc4, Sf4, Sc5, Sf5⟩ := cf6 HS59.out
   obtain ⟨Xc0, Xf0, Xc1, Xf1, Xc2, Xf2, Xc3, Xf3, Xc4, Xf4, Xc5, Xf5⟩ := cf6 HX58.out
   obtain ⟨hs0, hkE⟩ := sx6 HX58.out (.int .i64 1) (.string ⟨a1.toArray⟩) (.string ⟨a2.toArray⟩) (.string ⟨#[]⟩) (.string ⟨#[]⟩) (.slice wao wl.length wcap)
   have HX65 := Lib.hid hs0
   have HS66 := Lib.hid (((hkE).block _ (lt_of_heap HS59.out) (by have := HN.out; show ¬ _ = _; omega)).trans HS59.out)
   have HE67 := Lib.hid (RowAt.keeps HE60.out (hkE) (fun q hq _ => by have := HN.out; show ¬ _ = _; omega))
   have HS68 := Lib.hid (HS61.out.keeps hkE (by have := HN.out; show ¬ _ = _; omega))
   have HK69 := Lib.hid (HK62.out.trans_new hkE (fun q hq e => by have := HN.out; omega))
   clear hkE hs0 HX58 HS59 HE60 HS61 HK62
   go_wp2_with fail
   clear Sc0 Sf0 Sc1 Sf1 Sc2 Sf2 Sc3 Sf3 Sc4 Sf4 Sc5 Sf5 Xc0 Xf0 Xc1 Xf1 Xc2 Xf2 Xc3 Xf3 Xc4 Xf4 Xc5 Xf5
   generalize ((((((w64.setCell ⟨WA.heap.size, 0, none⟩ (.int .i64 1)).setCell ⟨WA.heap.size, 1, none⟩ (.string ⟨a1.toArray⟩)).setCell ⟨WA.heap.size, 2, none⟩ (.string ⟨a2.toArray⟩)).setCell ⟨WA.heap.size, 3, none⟩ (.string ⟨#[]⟩)).setCell ⟨WA.heap.size, 4, none⟩ (.string ⟨#[]⟩)).setCell ⟨WA.heap.size, 5, none⟩ (.slice wao wl.length wcap)) = WE at *
   obtain ⟨Xc0, Xf0, Xc1, Xf1, Xc2, Xf2, Xc3, Xf3, Xc4, Xf4, Xc5, Xf5⟩ := cf6 HX65.out
   refine bodyPost_ret (v := .agg #[.int .i64 1, .string ⟨a1.toArray⟩, .string ⟨a2.toArray⟩, .string ⟨#[]⟩, .string ⟨#[]⟩, .slice wao wl.length wcap]) (by simp [results, Tryz.results17, go_sem, *]) rfl ?_
   exact ⟨.slice wao wl.length wcap, rfl, HS68.out, HK69.out, ⟨HE67.out.1, fun k hk => ⟨by have := (HE67.out.2 k hk).1; have := HN.out; omega, (HE67.out.2 k hk).2⟩⟩⟩
  ·skip
   obtain ⟨⟨n, x3⟩, e3⟩ : ∃ q, belD x2 2 = q := ⟨_, rfl⟩
   have hn := belD_range (x := x2) (n := 2) (by omega)
   rw [e3] at hn
   simp only at hn
   obtain ⟨m, hm⟩ : ∃ m : Nat, (m : Int) = 1 + n := ⟨(1 + n).toNat, by omega⟩
   have hmt : (1 + n).toNat = m := by omega
   have hm10 : m ≤ 1000 := by omega
   have HP3 : Hid (∀ W, StB W 67 b x2 → Calls Tryz.prog 10 #[.pointer (some ⟨b, 0, none⟩), .int .i64 2] W (DrTo W 67 b (.int .i64 n) x3)) := fun W h => by
    have q := dbelow_at (by omega) e3 W h
    exact q
   obtain ⟨⟨wl0, x4⟩, e4⟩ : ∃ q, whoD s m x3 = q := ⟨_, rfl⟩
   obtain ⟨wl, hwl⟩ : ∃ q, sortO (· < ·) wl0 = q := ⟨_, rfl⟩
   have hwlen : wl0.length = m := by have q := who_len s m x3; rw [e4] at q; exact q
   have HP4 : Hid (∀ W, StB W 67 b x3 → Calls Tryz.prog 34 #[.pointer (some ⟨b, 0, none⟩), ShpV s, .int .i64 (m : Int)] W (WhoTo W 67 b wl x4)) := fun W h => by
    have q := dwho_spec hf hm10 h
    rw [e4] at q
    rw [hwl] at q
    exact q
   have hw : IntKind.i64.wrap (1 + n) = (m : Int) := by rw [hm]; exact IntWalk.i64_in _ (by omega)
   have HE : Hid (orD s noQry askD x = ((2, (a1, a2), ([], []), wl), x4)) := by
    show _ = _
    unfold orD
    rw [if_pos hf]
    unfold askD
    simp [e1, e2, e3, hmt, e4, hwl, noRol]
   rw [HE.out]
   clear HE e1 e2 e3 e4 hf hwl hmt hm
   unfold ShpV at *
   obtain ⟨Sc0, Sf0, Sc1, Sf1, Sc2, Sf2, Sc3, Sf3, Sc4, Sf4, Sc5, Sf5⟩ := cf6 HS0.out
   obtain ⟨Xc0, Xf0, Xc1, Xf1, Xc2, Xf2, Xc3, Xf3, Xc4, Xf4, Xc5, Xf5⟩ := cf6 HX0.out
   go_enter Tryz.func17, Tryz.ntmps17
   go_wp2_with fail
   refine (HM.out _).mono ?_
   rintro e w70 ⟨rfl, hk⟩
   have HS71 := Lib.hid (((hk.out).block _ (lt_of_heap HS0.out) (fun x => x)).trans HS0.out)
   have HX72 := Lib.hid (((hk.out).block _ (lt_of_heap HX0.out) (fun x => x)).trans HX0.out)
   have HS73 := Lib.hid (HST0.out.keeps hk.out (fun x => x))
   have HK74 := Lib.hid (HK0.out.trans hk.out)
   clear Sc0 Sf0 Sc1 Sf1 Sc2 Sf2 Sc3 Sf3 Sc4 Sf4 Sc5 Sf5 Xc0 Xf0 Xc1 Xf1 Xc2 Xf2 Xc3 Xf3 Xc4 Xf4 Xc5 Xf5
   clear hk HS0 HX0 HST0 HK0
   clear HM hWA hWB
   obtain ⟨Sc0, Sf0, Sc1, Sf1, Sc2, Sf2, Sc3, Sf3, Sc4, Sf4, Sc5, Sf5⟩ := cf6 HS71.out
   obtain ⟨Xc0, Xf0, Xc1, Xf1, Xc2, Xf2, Xc3, Xf3, Xc4, Xf4, Xc5, Xf5⟩ := cf6 HX72.out
   go_wp2_with fail
   refine (HP1.out _ HS73.out).mono ?_
   rintro e w75 ⟨rfl, hk⟩
   have HS76 := Lib.hid (((hk.out.2).block _ (lt_of_heap HS71.out) (by have := HN.out; show ¬ _ = _; omega)).trans HS71.out)
   have HX77 := Lib.hid (((hk.out.2).block _ (lt_of_heap HX72.out) (by have := HN.out; show ¬ _ = _; omega)).trans HX72.out)
   have HS78 := Lib.hid (hk.out.1)
   have HK79 := Lib.hid ((HK74.out.mono (fun _ _ x => x.elim)).trans hk.out.2)
   clear Sc0 Sf0 Sc1 Sf1 Sc2 Sf2 Sc3 Sf3 Sc4 Sf4 Sc5 Sf5 Xc0 Xf0 Xc1 Xf1 Xc2 Xf2 Xc3 Xf3 Xc4 Xf4 Xc5 Xf5
   clear hk HP1 HS71 HX72 HS73 HK74
   obtain ⟨Sc0, Sf0, Sc1, Sf1, Sc2, Sf2, Sc3, Sf3, Sc4, Sf4, Sc5, Sf5⟩ := cf6 HS76.out
   obtain ⟨Xc0, Xf0, Xc1, Xf1, Xc2, Xf2, Xc3, Xf3, Xc4, Xf4, Xc5, Xf5⟩ := cf6 HX77.out
   have hs0 : (w75.setCell ⟨WA.heap.size, 0, none⟩ (.int .i64 2)).heap[WA.heap.size]? = some (.cells #[.int .i64 2, .string ⟨#[]⟩, .string ⟨#[]⟩, .string ⟨#[]⟩, .string ⟨#[]⟩, .slice none 0 0] 49) := heap_set (HX77.out) 0 (.int .i64 2)
   have hkE : Keeps (fun q => q = WA.heap.size) w75 (w75.setCell ⟨WA.heap.size, 0, none⟩ (.int .i64 2)) := (Keeps.setCell (S := fun q => q = WA.heap.size) (Keeps.refl _ _) (p := ⟨WA.heap.size, 0, none⟩) (fun _ => rfl) _)
   have HX81 := Lib.hid hs0
   have HS82 := Lib.hid (((hkE).block _ (lt_of_heap HS76.out) (by have := HN.out; show ¬ _ = _; omega)).trans HS76.out)
   have HS83 := Lib.hid (HS78.out.keeps hkE (by have := HN.out; show ¬ _ = _; omega))
   have HK84 := Lib.hid (HK79.out.trans_new hkE (fun q hq e => by have := HN.out; omega))
   clear hkE hs0 HX77 HS76 HS78 HK79
   go_upto_region 4 with fail
   clear Sc0 Sf0 Sc1 Sf1 Sc2 Sf2 Sc3 Sf3 Sc4 Sf4 Sc5 Sf5 Xc0 Xf0 Xc1 Xf1 Xc2 Xf2 Xc3 Xf3 Xc4 Xf4 Xc5 Xf5
   generalize (w75.setCell ⟨WA.heap.size, 0, none⟩ (.int .i64 2)) = w80 at *
   obtain ⟨Sc0, Sf0, Sc1, Sf1, Sc2, Sf2, Sc3, Sf3, Sc4, Sf4, Sc5, Sf5⟩ := cf6 HS82.out
   obtain ⟨Xc0, Xf0, Xc1, Xf1, Xc2, Xf2, Xc3, Xf3, Xc4, Xf4, Xc5, Xf5⟩ := cf6 HX81.out
   go_wp2_with fail
   refine (HP2.out _ HS83.out).mono ?_
   rintro e w85 ⟨rfl, hk⟩
   have HS86 := Lib.hid (((hk.out.2).block _ (lt_of_heap HS82.out) (by have := HN.out; show ¬ _ = _; omega)).trans HS82.out)
   have HX87 := Lib.hid (((hk.out.2).block _ (lt_of_heap HX81.out) (by have := HN.out; show ¬ _ = _; omega)).trans HX81.out)
   have HS88 := Lib.hid (hk.out.1)
   have HK89 := Lib.hid (HK84.out.trans hk.out.2)
   clear Sc0 Sf0 Sc1 Sf1 Sc2 Sf2 Sc3 Sf3 Sc4 Sf4 Sc5 Sf5 Xc0 Xf0 Xc1 Xf1 Xc2 Xf2 Xc3 Xf3 Xc4 Xf4 Xc5 Xf5
   clear hk HP2 HS82 HX81 HS83 HK84
   obtain ⟨Sc0, Sf0, Sc1, Sf1, Sc2, Sf2, Sc3, Sf3, Sc4, Sf4, Sc5, Sf5⟩ := cf6 HS86.out
   obtain ⟨Xc0, Xf0, Xc1, Xf1, Xc2, Xf2, Xc3, Xf3, Xc4, Xf4, Xc5, Xf5⟩ := cf6 HX87.out
   have hs0 : (w85.setCell ⟨WA.heap.size, 1, none⟩ (.string ⟨a1.toArray⟩)).heap[WA.heap.size]? = some (.cells #[.int .i64 2, .string ⟨a1.toArray⟩, .string ⟨#[]⟩, .string ⟨#[]⟩, .string ⟨#[]⟩, .slice none 0 0] 49) := heap_set (HX87.out) 1 (.string ⟨a1.toArray⟩)
   have hs1 : ((w85.setCell ⟨WA.heap.size, 1, none⟩ (.string ⟨a1.toArray⟩)).setCell ⟨WA.heap.size, 2, none⟩ (.string ⟨a2.toArray⟩)).heap[WA.heap.size]? = some (.cells #[.int .i64 2, .string ⟨a1.toArray⟩, .string ⟨a2.toArray⟩, .string ⟨#[]⟩, .string ⟨#[]⟩, .slice none 0 0] 49) := heap_set (hs0) 2 (.string ⟨a2.toArray⟩)
   have hkE : Keeps (fun q => q = WA.heap.size) w85 ((w85.setCell ⟨WA.heap.size, 1, none⟩ (.string ⟨a1.toArray⟩)).setCell ⟨WA.heap.size, 2, none⟩ (.string ⟨a2.toArray⟩)) := (Keeps.setCell (S := fun q => q = WA.heap.size) (Keeps.setCell (S := fun q => q = WA.heap.size) (Keeps.refl _ _) (p := ⟨WA.heap.size, 1, none⟩) (fun _ => rfl) _) (p := ⟨WA.heap.size, 2, none⟩) (fun _ => rfl) _)
   have HX91 := Lib.hid hs1
   have HS92 := Lib.hid (((hkE).block _ (lt_of_heap HS86.out) (by have := HN.out; show ¬ _ = _; omega)).trans HS86.out)
   have HS93 := Lib.hid (HS88.out.keeps hkE (by have := HN.out; show ¬ _ = _; omega))
   have HK94 := Lib.hid (HK89.out.trans_new hkE (fun q hq e => by have := HN.out; omega))
   clear hkE hs0 hs1 HX87 HS86 HS88 HK89
   go_upto_region 5 with fail
   clear Sc0 Sf0 Sc1 Sf1 Sc2 Sf2 Sc3 Sf3 Sc4 Sf4 Sc5 Sf5 Xc0 Xf0 Xc1 Xf1 Xc2 Xf2 Xc3 Xf3 Xc4 Xf4 Xc5 Xf5
   generalize ((w85.setCell ⟨WA.heap.size, 1, none⟩ (.string ⟨a1.toArray⟩)).setCell ⟨WA.heap.size, 2, none⟩ (.string ⟨a2.toArray⟩)) = w90 at *
   obtain ⟨Sc0, Sf0, Sc1, Sf1, Sc2, Sf2, Sc3, Sf3, Sc4, Sf4, Sc5, Sf5⟩ := cf6 HS92.out
   obtain ⟨Xc0, Xf0, Xc1, Xf1, Xc2, Xf2, Xc3, Xf3, Xc4, Xf4, Xc5, Xf5⟩ := cf6 HX91.out
   go_upto_region 8 with fail
   clear Sc0 Sf0 Sc1 Sf1 Sc2 Sf2 Sc3 Sf3 Sc4 Sf4 Sc5 Sf5 Xc0 Xf0 Xc1 Xf1 Xc2 Xf2 Xc3 Xf3 Xc4 Xf4 Xc5 Xf5
   have HMK95 : Hid (∀ w' : World, w'.heap[W.heap.size]? = some (.cells #[.int .i64 s.prins, .int .i64 s.links, .int .i64 s.stmts, .int .i64 s.grow, .int .i64 s.shrink, .int .i64 s.asks] 32) → w'.cell? ⟨W.heap.size, 0, none⟩ = some (.int .i64 s.prins) ∧ w'.cell? ⟨W.heap.size, 1, none⟩ = some (.int .i64 s.links) ∧ w'.cell? ⟨W.heap.size, 2, none⟩ = some (.int .i64 s.stmts) ∧ w'.cell? ⟨W.heap.size, 3, none⟩ = some (.int .i64 s.grow) ∧ w'.cell? ⟨W.heap.size, 4, none⟩ = some (.int .i64 s.shrink) ∧ w'.cell? ⟨W.heap.size, 5, none⟩ = some (.int .i64 s.asks) ∧ Hid (w'.heap[W.heap.size]? = some (.cells #[.int .i64 s.prins, .int .i64 s.links, .int .i64 s.stmts, .int .i64 s.grow, .int .i64 s.shrink, .int .i64 s.asks] 32))) := fun w' h0 => ⟨(by rw [cell_of_heap h0]; rfl), (by rw [cell_of_heap h0]; rfl), (by rw [cell_of_heap h0]; rfl), (by rw [cell_of_heap h0]; rfl), (by rw [cell_of_heap h0]; rfl), (by rw [cell_of_heap h0]; rfl), Lib.hid h0⟩
   have hkd : Keeps (fun _ => False) w90 w90.drew := (Keeps.refl _ _).drew
   have HS96 := Lib.hid (((hkd).block _ (lt_of_heap HS92.out) (fun x => x)).trans HS92.out)
   have HX97 := Lib.hid (((hkd).block _ (lt_of_heap HX91.out) (fun x => x)).trans HX91.out)
   have HS98 := Lib.hid (HS93.out.keeps hkd (fun x => x))
   have HK99 := Lib.hid (HK94.out.drew)
   have hS0 := HMK95.out w90.drew HS96.out
   clear hkd HS92 HX91 HS93 HK94
   refine wp_region_noPanic ?_
   refine wp_region_held_drew (S := (fun w' => w'.cell? ⟨W.heap.size, 0, none⟩ = some (.int .i64 s.prins) ∧ w'.cell? ⟨W.heap.size, 1, none⟩ = some (.int .i64 s.links) ∧ w'.cell? ⟨W.heap.size, 2, none⟩ = some (.int .i64 s.stmts) ∧ w'.cell? ⟨W.heap.size, 3, none⟩ = some (.int .i64 s.grow) ∧ w'.cell? ⟨W.heap.size, 4, none⟩ = some (.int .i64 s.shrink) ∧ w'.cell? ⟨W.heap.size, 5, none⟩ = some (.int .i64 s.asks) ∧ Hid (w'.heap[W.heap.size]? = some (.cells #[.int .i64 s.prins, .int .i64 s.links, .int .i64 s.stmts, .int .i64 s.grow, .int .i64 s.shrink, .int .i64 s.asks] 32)))) (by kernel_rfl) hS0 (fun hHeld => ?_)
   clear hS0
   generalize w90.drew = w100 at *
   refine wpAnyH_take_at (i := 0) (v := ?v0_101) rfl (by kernel_rfl) (by kernel_rfl) (by kernel_rfl) (fun _ _ _ h => h) (Or.inl ⟨by rfl, ?y0_101⟩) hHeld ?r0_101
   case y0_101 => (intro w hSw; (try dsimp only at hSw); go_simp; first | done | with_reducible rfl)
   (try simp only [Act.put, nm1, nm2, nm3])
   refine wpAnyH_take_at (i := 1) (v := ?v1_102) rfl (by kernel_rfl) (by kernel_rfl) (by kernel_rfl) (fun _ _ _ h => h) (Or.inl ⟨by rfl, ?y1_102⟩) hHeld ?r1_102
   case y1_102 => (intro w hSw; (try dsimp only at hSw); go_simp; first | done | with_reducible rfl)
   (try simp only [Act.put, nm1, nm2, nm3])
   refine wpAnyH_take_at (i := 2) (v := ?v2_103) rfl (by kernel_rfl) (by kernel_rfl) (by kernel_rfl) (fun _ _ _ h => h) (Or.inl ⟨by rfl, ?y2_103⟩) hHeld ?r2_103
   case y2_103 => (intro w hSw; (try dsimp only at hSw); go_simp; first | done | with_reducible rfl)
   (try simp only [Act.put, nm1, nm2, nm3])
   refine wpAnyH_one (i := 3) (by kernel_rfl) rfl (fun KK hK => ?_)
   go_simp
   refine (HP3.out _ HS98.out).mono ?_
   rintro e w104 ⟨rfl, hk⟩
   have HS105 := Lib.hid (((hk.out.2).block _ (lt_of_heap HS96.out) (by have := HN.out; show ¬ _ = _; omega)).trans HS96.out)
   have HX106 := Lib.hid (((hk.out.2).block _ (lt_of_heap HX97.out) (by have := HN.out; show ¬ _ = _; omega)).trans HX97.out)
   have HS107 := Lib.hid (hk.out.1)
   have HK108 := Lib.hid (HK99.out.trans (hk.out.2))
   clear hk HP3 HS96 HX97 HS98 HK99
   go_simp
   refine hK.out _ _ ?s_109 (fun hHeld => ?_)
   case s_109 => exact HMK95.out _ HS105.out
   clear hK KK
   (try simp only [Act.put, nm1, nm2, nm3])
   refine wpAnyH_one (i := 4) (by kernel_rfl) rfl (fun KK hK => ?_)
   go_simp
   refine hK.out _ _ ?s_110 (fun hHeld => ?_)
   case s_110 => exact HMK95.out _ HS105.out
   clear hK KK
   (try simp only [Act.put, nm1, nm2, nm3])
   refine wpAnyH_one (i := 5) (by kernel_rfl) rfl (fun KK hK => ?_)
   go_simp
   refine (HP4.out _ HS107.out).mono ?_
   rintro e w111 ⟨wv, rfl, hk⟩
   obtain ⟨wao, wcap, hwv, hwv2⟩ := id hk.out.2.2.1
   clear hwv2
   subst hwv
   have HS112 := Lib.hid (((hk.out.2.1).block _ (lt_of_heap HS105.out) (by have := HN.out; show ¬ _ = _; omega)).trans HS105.out)
   have HX113 := Lib.hid (((hk.out.2.1).block _ (lt_of_heap HX106.out) (by have := HN.out; show ¬ _ = _; omega)).trans HX106.out)
   have HS114 := Lib.hid (hk.out.1)
   have HK115 := Lib.hid (HK108.out.trans (hk.out.2.1))
   have HRW : Hid (RowAt (WA.heap.size + 1) w111 (.slice wao wl.length wcap) wl) := ⟨hk.out.2.2.1, fun k hk2 => ⟨by have q1 := hk.out.2.2.2.1 k hk2; have q2 := lt_of_heap HX106.out; omega, hk.out.2.2.2.2 k hk2⟩⟩
   clear hk HP4 HS105 HX106 HS107 HK108
   go_simp
   refine hK.out _ _ ?s_116 (fun hHeld => ?_)
   case s_116 => exact HMK95.out _ HS112.out
   clear hK KK
   (try simp only [Act.put, nm1, nm2, nm3])
   refine wpAnyH_one (i := 6) (by kernel_rfl) rfl (fun KK hK => ?_)
   go_simp
   refine hK.out _ _ ?s_117 (fun hHeld => ?_)
   case s_117 => exact HMK95.out _ HS112.out
   clear hK KK
   (try simp only [Act.put, nm1, nm2, nm3])
   refine wpAnyH_one (i := 7) (by kernel_rfl) rfl (fun KK hK => ?_)
   obtain ⟨Xc0, Xf0, Xc1, Xf1, Xc2, Xf2, Xc3, Xf3, Xc4, Xf4, Xc5, Xf5⟩ := cf6 HX113.out
   have hs0 : (w111.setCell ⟨WA.heap.size, 5, none⟩ (.slice wao wl.length wcap)).heap[WA.heap.size]? = some (.cells #[.int .i64 2, .string ⟨a1.toArray⟩, .string ⟨a2.toArray⟩, .string ⟨#[]⟩, .string ⟨#[]⟩, .slice wao wl.length wcap] 49) := heap_set HX113.out 5 (.slice wao wl.length wcap)
   have hkE : Keeps (fun q => q = WA.heap.size) w111 (w111.setCell ⟨WA.heap.size, 5, none⟩ (.slice wao wl.length wcap)) := Keeps.setCell (S := fun q => q = WA.heap.size) (Keeps.refl _ _) (p := ⟨WA.heap.size, 5, none⟩) (fun _ => rfl) _
   have HX118 := Lib.hid hs0
   have HS119 := Lib.hid (((hkE).block _ (lt_of_heap HS112.out) (by have := HN.out; show ¬ _ = _; omega)).trans HS112.out)
   have HE120 := Lib.hid (RowAt.keeps HRW.out (hkE) (fun q hq _ => by have := HN.out; show ¬ _ = _; omega))
   have HS121 := Lib.hid (HS114.out.keeps hkE (by have := HN.out; show ¬ _ = _; omega))
   have HK122 := Lib.hid (HK115.out.trans_new hkE (fun q hq e => by have := HN.out; omega))
   go_simp
   refine hK.out _ _ ?s_123 (fun hHeld => ?_)
   case s_123 => exact HMK95.out _ HS119.out
   clear hK KK
   (try simp only [Act.put, nm1, nm2, nm3])
   clear hkE hs0  HX113 HS112 HRW HS114 HK115
   clear Xc0 Xf0 Xc1 Xf1 Xc2 Xf2 Xc3 Xf3 Xc4 Xf4 Xc5 Xf5
   generalize (w111.setCell ⟨WA.heap.size, 5, none⟩ (.slice wao wl.length wcap)) = w124 at *
   refine wpAnyH_done (by kernel_rfl) ?_ _
   refine NoPanic.normal ?_
   clear hHeld HMK95
   obtain ⟨Sc0, Sf0, Sc1, Sf1, Sc2, Sf2, Sc3, Sf3, Sc4, Sf4, Sc5, Sf5⟩ := cf6 HS119.out
   obtain ⟨Xc0, Xf0, Xc1, Xf1, Xc2, Xf2, Xc3, Xf3, Xc4, Xf4, Xc5, Xf5⟩ := cf6 HX118.out
   obtain ⟨hs0, hkE⟩ := sx6 HX118.out (.int .i64 2) (.string ⟨a1.toArray⟩) (.string ⟨a2.toArray⟩) (.string ⟨#[]⟩) (.string ⟨#[]⟩) (.slice wao wl.length wcap)
   have HX125 := Lib.hid hs0
   have HS126 := Lib.hid (((hkE).block _ (lt_of_heap HS119.out) (by have := HN.out; show ¬ _ = _; omega)).trans HS119.out)
   have HE127 := Lib.hid (RowAt.keeps HE120.out (hkE) (fun q hq _ => by have := HN.out; show ¬ _ = _; omega))
   have HS128 := Lib.hid (HS121.out.keeps hkE (by have := HN.out; show ¬ _ = _; omega))
   have HK129 := Lib.hid (HK122.out.trans_new hkE (fun q hq e => by have := HN.out; omega))
   clear hkE hs0 HX118 HS119 HE120 HS121 HK122
   go_wp2_with fail
   clear Sc0 Sf0 Sc1 Sf1 Sc2 Sf2 Sc3 Sf3 Sc4 Sf4 Sc5 Sf5 Xc0 Xf0 Xc1 Xf1 Xc2 Xf2 Xc3 Xf3 Xc4 Xf4 Xc5 Xf5
   generalize ((((((w124.setCell ⟨WA.heap.size, 0, none⟩ (.int .i64 2)).setCell ⟨WA.heap.size, 1, none⟩ (.string ⟨a1.toArray⟩)).setCell ⟨WA.heap.size, 2, none⟩ (.string ⟨a2.toArray⟩)).setCell ⟨WA.heap.size, 3, none⟩ (.string ⟨#[]⟩)).setCell ⟨WA.heap.size, 4, none⟩ (.string ⟨#[]⟩)).setCell ⟨WA.heap.size, 5, none⟩ (.slice wao wl.length wcap)) = WE at *
   obtain ⟨Xc0, Xf0, Xc1, Xf1, Xc2, Xf2, Xc3, Xf3, Xc4, Xf4, Xc5, Xf5⟩ := cf6 HX125.out
   refine bodyPost_ret (v := .agg #[.int .i64 2, .string ⟨a1.toArray⟩, .string ⟨a2.toArray⟩, .string ⟨#[]⟩, .string ⟨#[]⟩, .slice wao wl.length wcap]) (by simp [results, Tryz.results17, go_sem, *]) rfl ?_
   exact ⟨.slice wao wl.length wcap, rfl, HS128.out, HK129.out, ⟨HE127.out.1, fun k hk => ⟨by have := (HE127.out.2 k hk).1; have := HN.out; omega, (HE127.out.2 k hk).2⟩⟩⟩
  ·skip
   obtain ⟨⟨n, x3⟩, e3⟩ : ∃ q, belD x2 3 = q := ⟨_, rfl⟩
   have hn := belD_range (x := x2) (n := 3) (by omega)
   rw [e3] at hn
   simp only at hn
   obtain ⟨m, hm⟩ : ∃ m : Nat, (m : Int) = n := ⟨(n).toNat, by omega⟩
   have hmt : (n).toNat = m := by omega
   have hm10 : m ≤ 1000 := by omega
   have HP3 : Hid (∀ W, StB W 67 b x2 → Calls Tryz.prog 10 #[.pointer (some ⟨b, 0, none⟩), .int .i64 3] W (DrTo W 67 b (.int .i64 (m : Int)) x3)) := fun W h => by
    have q := dbelow_at (by omega) e3 W h
    rw [hm]; exact q
   obtain ⟨⟨wl0, x4⟩, e4⟩ : ∃ q, whoD s m x3 = q := ⟨_, rfl⟩
   obtain ⟨wl, hwl⟩ : ∃ q, sortO (· < ·) wl0 = q := ⟨_, rfl⟩
   have hwlen : wl0.length = m := by have q := who_len s m x3; rw [e4] at q; exact q
   have HP4 : Hid (∀ W, StB W 67 b x3 → Calls Tryz.prog 34 #[.pointer (some ⟨b, 0, none⟩), ShpV s, .int .i64 (m : Int)] W (WhoTo W 67 b wl x4)) := fun W h => by
    have q := dwho_spec hf hm10 h
    rw [e4] at q
    rw [hwl] at q
    exact q
   skip
   have HE : Hid (orD s noQry askD x = ((3, (a1, a2), ([], []), wl), x4)) := by
    show _ = _
    unfold orD
    rw [if_pos hf]
    unfold askD
    simp [e1, e2, e3, hmt, e4, hwl, noRol]
   rw [HE.out]
   clear HE e1 e2 e3 e4 hf hwl hmt hm
   unfold ShpV at *
   obtain ⟨Sc0, Sf0, Sc1, Sf1, Sc2, Sf2, Sc3, Sf3, Sc4, Sf4, Sc5, Sf5⟩ := cf6 HS0.out
   obtain ⟨Xc0, Xf0, Xc1, Xf1, Xc2, Xf2, Xc3, Xf3, Xc4, Xf4, Xc5, Xf5⟩ := cf6 HX0.out
   go_enter Tryz.func17, Tryz.ntmps17
   go_wp2_with fail
   refine (HM.out _).mono ?_
   rintro e w130 ⟨rfl, hk⟩
   have HS131 := Lib.hid (((hk.out).block _ (lt_of_heap HS0.out) (fun x => x)).trans HS0.out)
   have HX132 := Lib.hid (((hk.out).block _ (lt_of_heap HX0.out) (fun x => x)).trans HX0.out)
   have HS133 := Lib.hid (HST0.out.keeps hk.out (fun x => x))
   have HK134 := Lib.hid (HK0.out.trans hk.out)
   clear Sc0 Sf0 Sc1 Sf1 Sc2 Sf2 Sc3 Sf3 Sc4 Sf4 Sc5 Sf5 Xc0 Xf0 Xc1 Xf1 Xc2 Xf2 Xc3 Xf3 Xc4 Xf4 Xc5 Xf5
   clear hk HS0 HX0 HST0 HK0
   clear HM hWA hWB
   obtain ⟨Sc0, Sf0, Sc1, Sf1, Sc2, Sf2, Sc3, Sf3, Sc4, Sf4, Sc5, Sf5⟩ := cf6 HS131.out
   obtain ⟨Xc0, Xf0, Xc1, Xf1, Xc2, Xf2, Xc3, Xf3, Xc4, Xf4, Xc5, Xf5⟩ := cf6 HX132.out
   go_wp2_with fail
   refine (HP1.out _ HS133.out).mono ?_
   rintro e w135 ⟨rfl, hk⟩
   have HS136 := Lib.hid (((hk.out.2).block _ (lt_of_heap HS131.out) (by have := HN.out; show ¬ _ = _; omega)).trans HS131.out)
   have HX137 := Lib.hid (((hk.out.2).block _ (lt_of_heap HX132.out) (by have := HN.out; show ¬ _ = _; omega)).trans HX132.out)
   have HS138 := Lib.hid (hk.out.1)
   have HK139 := Lib.hid ((HK134.out.mono (fun _ _ x => x.elim)).trans hk.out.2)
   clear Sc0 Sf0 Sc1 Sf1 Sc2 Sf2 Sc3 Sf3 Sc4 Sf4 Sc5 Sf5 Xc0 Xf0 Xc1 Xf1 Xc2 Xf2 Xc3 Xf3 Xc4 Xf4 Xc5 Xf5
   clear hk HP1 HS131 HX132 HS133 HK134
   obtain ⟨Sc0, Sf0, Sc1, Sf1, Sc2, Sf2, Sc3, Sf3, Sc4, Sf4, Sc5, Sf5⟩ := cf6 HS136.out
   obtain ⟨Xc0, Xf0, Xc1, Xf1, Xc2, Xf2, Xc3, Xf3, Xc4, Xf4, Xc5, Xf5⟩ := cf6 HX137.out
   have hs0 : (w135.setCell ⟨WA.heap.size, 0, none⟩ (.int .i64 3)).heap[WA.heap.size]? = some (.cells #[.int .i64 3, .string ⟨#[]⟩, .string ⟨#[]⟩, .string ⟨#[]⟩, .string ⟨#[]⟩, .slice none 0 0] 49) := heap_set (HX137.out) 0 (.int .i64 3)
   have hkE : Keeps (fun q => q = WA.heap.size) w135 (w135.setCell ⟨WA.heap.size, 0, none⟩ (.int .i64 3)) := (Keeps.setCell (S := fun q => q = WA.heap.size) (Keeps.refl _ _) (p := ⟨WA.heap.size, 0, none⟩) (fun _ => rfl) _)
   have HX141 := Lib.hid hs0
   have HS142 := Lib.hid (((hkE).block _ (lt_of_heap HS136.out) (by have := HN.out; show ¬ _ = _; omega)).trans HS136.out)
   have HS143 := Lib.hid (HS138.out.keeps hkE (by have := HN.out; show ¬ _ = _; omega))
   have HK144 := Lib.hid (HK139.out.trans_new hkE (fun q hq e => by have := HN.out; omega))
   clear hkE hs0 HX137 HS136 HS138 HK139
   go_upto_region 4 with fail
   clear Sc0 Sf0 Sc1 Sf1 Sc2 Sf2 Sc3 Sf3 Sc4 Sf4 Sc5 Sf5 Xc0 Xf0 Xc1 Xf1 Xc2 Xf2 Xc3 Xf3 Xc4 Xf4 Xc5 Xf5
   generalize (w135.setCell ⟨WA.heap.size, 0, none⟩ (.int .i64 3)) = w140 at *
   obtain ⟨Sc0, Sf0, Sc1, Sf1, Sc2, Sf2, Sc3, Sf3, Sc4, Sf4, Sc5, Sf5⟩ := cf6 HS142.out
   obtain ⟨Xc0, Xf0, Xc1, Xf1, Xc2, Xf2, Xc3, Xf3, Xc4, Xf4, Xc5, Xf5⟩ := cf6 HX141.out
   go_wp2_with fail
   refine (HP2.out _ HS143.out).mono ?_
   rintro e w145 ⟨rfl, hk⟩
   have HS146 := Lib.hid (((hk.out.2).block _ (lt_of_heap HS142.out) (by have := HN.out; show ¬ _ = _; omega)).trans HS142.out)
   have HX147 := Lib.hid (((hk.out.2).block _ (lt_of_heap HX141.out) (by have := HN.out; show ¬ _ = _; omega)).trans HX141.out)
   have HS148 := Lib.hid (hk.out.1)
   have HK149 := Lib.hid (HK144.out.trans hk.out.2)
   clear Sc0 Sf0 Sc1 Sf1 Sc2 Sf2 Sc3 Sf3 Sc4 Sf4 Sc5 Sf5 Xc0 Xf0 Xc1 Xf1 Xc2 Xf2 Xc3 Xf3 Xc4 Xf4 Xc5 Xf5
   clear hk HP2 HS142 HX141 HS143 HK144
   obtain ⟨Sc0, Sf0, Sc1, Sf1, Sc2, Sf2, Sc3, Sf3, Sc4, Sf4, Sc5, Sf5⟩ := cf6 HS146.out
   obtain ⟨Xc0, Xf0, Xc1, Xf1, Xc2, Xf2, Xc3, Xf3, Xc4, Xf4, Xc5, Xf5⟩ := cf6 HX147.out
   have hs0 : (w145.setCell ⟨WA.heap.size, 1, none⟩ (.string ⟨a1.toArray⟩)).heap[WA.heap.size]? = some (.cells #[.int .i64 3, .string ⟨a1.toArray⟩, .string ⟨#[]⟩, .string ⟨#[]⟩, .string ⟨#[]⟩, .slice none 0 0] 49) := heap_set (HX147.out) 1 (.string ⟨a1.toArray⟩)
   have hs1 : ((w145.setCell ⟨WA.heap.size, 1, none⟩ (.string ⟨a1.toArray⟩)).setCell ⟨WA.heap.size, 2, none⟩ (.string ⟨a2.toArray⟩)).heap[WA.heap.size]? = some (.cells #[.int .i64 3, .string ⟨a1.toArray⟩, .string ⟨a2.toArray⟩, .string ⟨#[]⟩, .string ⟨#[]⟩, .slice none 0 0] 49) := heap_set (hs0) 2 (.string ⟨a2.toArray⟩)
   have hkE : Keeps (fun q => q = WA.heap.size) w145 ((w145.setCell ⟨WA.heap.size, 1, none⟩ (.string ⟨a1.toArray⟩)).setCell ⟨WA.heap.size, 2, none⟩ (.string ⟨a2.toArray⟩)) := (Keeps.setCell (S := fun q => q = WA.heap.size) (Keeps.setCell (S := fun q => q = WA.heap.size) (Keeps.refl _ _) (p := ⟨WA.heap.size, 1, none⟩) (fun _ => rfl) _) (p := ⟨WA.heap.size, 2, none⟩) (fun _ => rfl) _)
   have HX151 := Lib.hid hs1
   have HS152 := Lib.hid (((hkE).block _ (lt_of_heap HS146.out) (by have := HN.out; show ¬ _ = _; omega)).trans HS146.out)
   have HS153 := Lib.hid (HS148.out.keeps hkE (by have := HN.out; show ¬ _ = _; omega))
   have HK154 := Lib.hid (HK149.out.trans_new hkE (fun q hq e => by have := HN.out; omega))
   clear hkE hs0 hs1 HX147 HS146 HS148 HK149
   go_upto_region 5 with fail
   clear Sc0 Sf0 Sc1 Sf1 Sc2 Sf2 Sc3 Sf3 Sc4 Sf4 Sc5 Sf5 Xc0 Xf0 Xc1 Xf1 Xc2 Xf2 Xc3 Xf3 Xc4 Xf4 Xc5 Xf5
   generalize ((w145.setCell ⟨WA.heap.size, 1, none⟩ (.string ⟨a1.toArray⟩)).setCell ⟨WA.heap.size, 2, none⟩ (.string ⟨a2.toArray⟩)) = w150 at *
   obtain ⟨Sc0, Sf0, Sc1, Sf1, Sc2, Sf2, Sc3, Sf3, Sc4, Sf4, Sc5, Sf5⟩ := cf6 HS152.out
   obtain ⟨Xc0, Xf0, Xc1, Xf1, Xc2, Xf2, Xc3, Xf3, Xc4, Xf4, Xc5, Xf5⟩ := cf6 HX151.out
   go_upto_region 10 with fail
   clear Sc0 Sf0 Sc1 Sf1 Sc2 Sf2 Sc3 Sf3 Sc4 Sf4 Sc5 Sf5 Xc0 Xf0 Xc1 Xf1 Xc2 Xf2 Xc3 Xf3 Xc4 Xf4 Xc5 Xf5
   have HMK155 : Hid (∀ w' : World, w'.heap[W.heap.size]? = some (.cells #[.int .i64 s.prins, .int .i64 s.links, .int .i64 s.stmts, .int .i64 s.grow, .int .i64 s.shrink, .int .i64 s.asks] 32) → w'.cell? ⟨W.heap.size, 0, none⟩ = some (.int .i64 s.prins) ∧ w'.cell? ⟨W.heap.size, 1, none⟩ = some (.int .i64 s.links) ∧ w'.cell? ⟨W.heap.size, 2, none⟩ = some (.int .i64 s.stmts) ∧ w'.cell? ⟨W.heap.size, 3, none⟩ = some (.int .i64 s.grow) ∧ w'.cell? ⟨W.heap.size, 4, none⟩ = some (.int .i64 s.shrink) ∧ w'.cell? ⟨W.heap.size, 5, none⟩ = some (.int .i64 s.asks) ∧ Hid (w'.heap[W.heap.size]? = some (.cells #[.int .i64 s.prins, .int .i64 s.links, .int .i64 s.stmts, .int .i64 s.grow, .int .i64 s.shrink, .int .i64 s.asks] 32))) := fun w' h0 => ⟨(by rw [cell_of_heap h0]; rfl), (by rw [cell_of_heap h0]; rfl), (by rw [cell_of_heap h0]; rfl), (by rw [cell_of_heap h0]; rfl), (by rw [cell_of_heap h0]; rfl), (by rw [cell_of_heap h0]; rfl), Lib.hid h0⟩
   have hkd : Keeps (fun _ => False) w150 w150.drew := (Keeps.refl _ _).drew
   have HS156 := Lib.hid (((hkd).block _ (lt_of_heap HS152.out) (fun x => x)).trans HS152.out)
   have HX157 := Lib.hid (((hkd).block _ (lt_of_heap HX151.out) (fun x => x)).trans HX151.out)
   have HS158 := Lib.hid (HS153.out.keeps hkd (fun x => x))
   have HK159 := Lib.hid (HK154.out.drew)
   have hS0 := HMK155.out w150.drew HS156.out
   clear hkd HS152 HX151 HS153 HK154
   refine wp_region_noPanic ?_
   refine wp_region_held_drew (S := (fun w' => w'.cell? ⟨W.heap.size, 0, none⟩ = some (.int .i64 s.prins) ∧ w'.cell? ⟨W.heap.size, 1, none⟩ = some (.int .i64 s.links) ∧ w'.cell? ⟨W.heap.size, 2, none⟩ = some (.int .i64 s.stmts) ∧ w'.cell? ⟨W.heap.size, 3, none⟩ = some (.int .i64 s.grow) ∧ w'.cell? ⟨W.heap.size, 4, none⟩ = some (.int .i64 s.shrink) ∧ w'.cell? ⟨W.heap.size, 5, none⟩ = some (.int .i64 s.asks) ∧ Hid (w'.heap[W.heap.size]? = some (.cells #[.int .i64 s.prins, .int .i64 s.links, .int .i64 s.stmts, .int .i64 s.grow, .int .i64 s.shrink, .int .i64 s.asks] 32)))) (by kernel_rfl) hS0 (fun hHeld => ?_)
   clear hS0
   generalize w150.drew = w160 at *
   refine wpAnyH_take_at (i := 0) (v := ?v0_161) rfl (by kernel_rfl) (by kernel_rfl) (by kernel_rfl) (fun _ _ _ h => h) (Or.inl ⟨by rfl, ?y0_161⟩) hHeld ?r0_161
   case y0_161 => (intro w hSw; (try dsimp only at hSw); go_simp; first | done | with_reducible rfl)
   (try simp only [Act.put, nm1, nm2, nm3])
   refine wpAnyH_take_at (i := 1) (v := ?v1_162) rfl (by kernel_rfl) (by kernel_rfl) (by kernel_rfl) (fun _ _ _ h => h) (Or.inl ⟨by rfl, ?y1_162⟩) hHeld ?r1_162
   case y1_162 => (intro w hSw; (try dsimp only at hSw); go_simp; first | done | with_reducible rfl)
   (try simp only [Act.put, nm1, nm2, nm3])
   refine wpAnyH_take_at (i := 2) (v := ?v2_163) rfl (by kernel_rfl) (by kernel_rfl) (by kernel_rfl) (fun _ _ _ h => h) (Or.inl ⟨by rfl, ?y2_163⟩) hHeld ?r2_163
   case y2_163 => (intro w hSw; (try dsimp only at hSw); go_simp; first | done | with_reducible rfl)
   (try simp only [Act.put, nm1, nm2, nm3])
   refine wpAnyH_one (i := 3) (by kernel_rfl) rfl (fun KK hK => ?_)
   go_simp
   refine (HP3.out _ HS158.out).mono ?_
   rintro e w164 ⟨rfl, hk⟩
   have HS165 := Lib.hid (((hk.out.2).block _ (lt_of_heap HS156.out) (by have := HN.out; show ¬ _ = _; omega)).trans HS156.out)
   have HX166 := Lib.hid (((hk.out.2).block _ (lt_of_heap HX157.out) (by have := HN.out; show ¬ _ = _; omega)).trans HX157.out)
   have HS167 := Lib.hid (hk.out.1)
   have HK168 := Lib.hid (HK159.out.trans (hk.out.2))
   clear hk HP3 HS156 HX157 HS158 HK159
   go_simp
   refine hK.out _ _ ?s_169 (fun hHeld => ?_)
   case s_169 => exact HMK155.out _ HS165.out
   clear hK KK
   (try simp only [Act.put, nm1, nm2, nm3])
   refine wpAnyH_one (i := 4) (by kernel_rfl) rfl (fun KK hK => ?_)
   go_simp
   refine (HP4.out _ HS167.out).mono ?_
   rintro e w170 ⟨wv, rfl, hk⟩
   obtain ⟨wao, wcap, hwv, hwv2⟩ := id hk.out.2.2.1
   clear hwv2
   subst hwv
   have HS171 := Lib.hid (((hk.out.2.1).block _ (lt_of_heap HS165.out) (by have := HN.out; show ¬ _ = _; omega)).trans HS165.out)
   have HX172 := Lib.hid (((hk.out.2.1).block _ (lt_of_heap HX166.out) (by have := HN.out; show ¬ _ = _; omega)).trans HX166.out)
   have HS173 := Lib.hid (hk.out.1)
   have HK174 := Lib.hid (HK168.out.trans (hk.out.2.1))
   have HRW : Hid (RowAt (WA.heap.size + 1) w170 (.slice wao wl.length wcap) wl) := ⟨hk.out.2.2.1, fun k hk2 => ⟨by have q1 := hk.out.2.2.2.1 k hk2; have q2 := lt_of_heap HX166.out; omega, hk.out.2.2.2.2 k hk2⟩⟩
   clear hk HP4 HS165 HX166 HS167 HK168
   go_simp
   refine hK.out _ _ ?s_175 (fun hHeld => ?_)
   case s_175 => exact HMK155.out _ HS171.out
   clear hK KK
   (try simp only [Act.put, nm1, nm2, nm3])
   refine wpAnyH_one (i := 5) (by kernel_rfl) rfl (fun KK hK => ?_)
   go_simp
   refine hK.out _ _ ?s_176 (fun hHeld => ?_)
   case s_176 => exact HMK155.out _ HS171.out
   clear hK KK
   (try simp only [Act.put, nm1, nm2, nm3])
   refine wpAnyH_one (i := 6) (by kernel_rfl) rfl (fun KK hK => ?_)
   obtain ⟨Xc0, Xf0, Xc1, Xf1, Xc2, Xf2, Xc3, Xf3, Xc4, Xf4, Xc5, Xf5⟩ := cf6 HX172.out
   have hs0 : (w170.setCell ⟨WA.heap.size, 5, none⟩ (.slice wao wl.length wcap)).heap[WA.heap.size]? = some (.cells #[.int .i64 3, .string ⟨a1.toArray⟩, .string ⟨a2.toArray⟩, .string ⟨#[]⟩, .string ⟨#[]⟩, .slice wao wl.length wcap] 49) := heap_set HX172.out 5 (.slice wao wl.length wcap)
   have hkE : Keeps (fun q => q = WA.heap.size) w170 (w170.setCell ⟨WA.heap.size, 5, none⟩ (.slice wao wl.length wcap)) := Keeps.setCell (S := fun q => q = WA.heap.size) (Keeps.refl _ _) (p := ⟨WA.heap.size, 5, none⟩) (fun _ => rfl) _
   have HX177 := Lib.hid hs0
   have HS178 := Lib.hid (((hkE).block _ (lt_of_heap HS171.out) (by have := HN.out; show ¬ _ = _; omega)).trans HS171.out)
   have HE179 := Lib.hid (RowAt.keeps HRW.out (hkE) (fun q hq _ => by have := HN.out; show ¬ _ = _; omega))
   have HS180 := Lib.hid (HS173.out.keeps hkE (by have := HN.out; show ¬ _ = _; omega))
   have HK181 := Lib.hid (HK174.out.trans_new hkE (fun q hq e => by have := HN.out; omega))
   go_simp
   refine hK.out _ _ ?s_182 (fun hHeld => ?_)
   case s_182 => exact HMK155.out _ HS178.out
   clear hK KK
   (try simp only [Act.put, nm1, nm2, nm3])
   clear hkE hs0  HX172 HS171 HRW HS173 HK174
   clear Xc0 Xf0 Xc1 Xf1 Xc2 Xf2 Xc3 Xf3 Xc4 Xf4 Xc5 Xf5
   generalize (w170.setCell ⟨WA.heap.size, 5, none⟩ (.slice wao wl.length wcap)) = w183 at *
   refine wpAnyH_done (by kernel_rfl) ?_ _
   refine NoPanic.normal ?_
   clear hHeld HMK155
   obtain ⟨Sc0, Sf0, Sc1, Sf1, Sc2, Sf2, Sc3, Sf3, Sc4, Sf4, Sc5, Sf5⟩ := cf6 HS178.out
   obtain ⟨Xc0, Xf0, Xc1, Xf1, Xc2, Xf2, Xc3, Xf3, Xc4, Xf4, Xc5, Xf5⟩ := cf6 HX177.out
   obtain ⟨hs0, hkE⟩ := sx6 HX177.out (.int .i64 3) (.string ⟨a1.toArray⟩) (.string ⟨a2.toArray⟩) (.string ⟨#[]⟩) (.string ⟨#[]⟩) (.slice wao wl.length wcap)
   have HX184 := Lib.hid hs0
   have HS185 := Lib.hid (((hkE).block _ (lt_of_heap HS178.out) (by have := HN.out; show ¬ _ = _; omega)).trans HS178.out)
   have HE186 := Lib.hid (RowAt.keeps HE179.out (hkE) (fun q hq _ => by have := HN.out; show ¬ _ = _; omega))
   have HS187 := Lib.hid (HS180.out.keeps hkE (by have := HN.out; show ¬ _ = _; omega))
   have HK188 := Lib.hid (HK181.out.trans_new hkE (fun q hq e => by have := HN.out; omega))
   clear hkE hs0 HX177 HS178 HE179 HS180 HK181
   go_wp2_with fail
   clear Sc0 Sf0 Sc1 Sf1 Sc2 Sf2 Sc3 Sf3 Sc4 Sf4 Sc5 Sf5 Xc0 Xf0 Xc1 Xf1 Xc2 Xf2 Xc3 Xf3 Xc4 Xf4 Xc5 Xf5
   generalize ((((((w183.setCell ⟨WA.heap.size, 0, none⟩ (.int .i64 3)).setCell ⟨WA.heap.size, 1, none⟩ (.string ⟨a1.toArray⟩)).setCell ⟨WA.heap.size, 2, none⟩ (.string ⟨a2.toArray⟩)).setCell ⟨WA.heap.size, 3, none⟩ (.string ⟨#[]⟩)).setCell ⟨WA.heap.size, 4, none⟩ (.string ⟨#[]⟩)).setCell ⟨WA.heap.size, 5, none⟩ (.slice wao wl.length wcap)) = WE at *
   obtain ⟨Xc0, Xf0, Xc1, Xf1, Xc2, Xf2, Xc3, Xf3, Xc4, Xf4, Xc5, Xf5⟩ := cf6 HX184.out
   refine bodyPost_ret (v := .agg #[.int .i64 3, .string ⟨a1.toArray⟩, .string ⟨a2.toArray⟩, .string ⟨#[]⟩, .string ⟨#[]⟩, .slice wao wl.length wcap]) (by simp [results, Tryz.results17, go_sem, *]) rfl ?_
   exact ⟨.slice wao wl.length wcap, rfl, HS187.out, HK188.out, ⟨HE186.out.1, fun k hk => ⟨by have := (HE186.out.2 k hk).1; have := HN.out; omega, (HE186.out.2 k hk).2⟩⟩⟩
  ·skip
   have HE : Hid (orD s noQry askD x = ((4, (a1, a2), ([], []), []), x2)) := by
    show _ = _
    unfold orD
    rw [if_pos hf]
    unfold askD
    simp [e1, e2, noRol]
   rw [HE.out]
   clear HE e1 e2 hf 
   unfold ShpV at *
   obtain ⟨Sc0, Sf0, Sc1, Sf1, Sc2, Sf2, Sc3, Sf3, Sc4, Sf4, Sc5, Sf5⟩ := cf6 HS0.out
   obtain ⟨Xc0, Xf0, Xc1, Xf1, Xc2, Xf2, Xc3, Xf3, Xc4, Xf4, Xc5, Xf5⟩ := cf6 HX0.out
   go_enter Tryz.func17, Tryz.ntmps17
   go_wp2_with fail
   refine (HM.out _).mono ?_
   rintro e w189 ⟨rfl, hk⟩
   have HS190 := Lib.hid (((hk.out).block _ (lt_of_heap HS0.out) (fun x => x)).trans HS0.out)
   have HX191 := Lib.hid (((hk.out).block _ (lt_of_heap HX0.out) (fun x => x)).trans HX0.out)
   have HS192 := Lib.hid (HST0.out.keeps hk.out (fun x => x))
   have HK193 := Lib.hid (HK0.out.trans hk.out)
   clear Sc0 Sf0 Sc1 Sf1 Sc2 Sf2 Sc3 Sf3 Sc4 Sf4 Sc5 Sf5 Xc0 Xf0 Xc1 Xf1 Xc2 Xf2 Xc3 Xf3 Xc4 Xf4 Xc5 Xf5
   clear hk HS0 HX0 HST0 HK0
   clear HM hWA hWB
   obtain ⟨Sc0, Sf0, Sc1, Sf1, Sc2, Sf2, Sc3, Sf3, Sc4, Sf4, Sc5, Sf5⟩ := cf6 HS190.out
   obtain ⟨Xc0, Xf0, Xc1, Xf1, Xc2, Xf2, Xc3, Xf3, Xc4, Xf4, Xc5, Xf5⟩ := cf6 HX191.out
   go_wp2_with fail
   refine (HP1.out _ HS192.out).mono ?_
   rintro e w194 ⟨rfl, hk⟩
   have HS195 := Lib.hid (((hk.out.2).block _ (lt_of_heap HS190.out) (by have := HN.out; show ¬ _ = _; omega)).trans HS190.out)
   have HX196 := Lib.hid (((hk.out.2).block _ (lt_of_heap HX191.out) (by have := HN.out; show ¬ _ = _; omega)).trans HX191.out)
   have HS197 := Lib.hid (hk.out.1)
   have HK198 := Lib.hid ((HK193.out.mono (fun _ _ x => x.elim)).trans hk.out.2)
   clear Sc0 Sf0 Sc1 Sf1 Sc2 Sf2 Sc3 Sf3 Sc4 Sf4 Sc5 Sf5 Xc0 Xf0 Xc1 Xf1 Xc2 Xf2 Xc3 Xf3 Xc4 Xf4 Xc5 Xf5
   clear hk HP1 HS190 HX191 HS192 HK193
   obtain ⟨Sc0, Sf0, Sc1, Sf1, Sc2, Sf2, Sc3, Sf3, Sc4, Sf4, Sc5, Sf5⟩ := cf6 HS195.out
   obtain ⟨Xc0, Xf0, Xc1, Xf1, Xc2, Xf2, Xc3, Xf3, Xc4, Xf4, Xc5, Xf5⟩ := cf6 HX196.out
   have hs0 : (w194.setCell ⟨WA.heap.size, 0, none⟩ (.int .i64 4)).heap[WA.heap.size]? = some (.cells #[.int .i64 4, .string ⟨#[]⟩, .string ⟨#[]⟩, .string ⟨#[]⟩, .string ⟨#[]⟩, .slice none 0 0] 49) := heap_set (HX196.out) 0 (.int .i64 4)
   have hkE : Keeps (fun q => q = WA.heap.size) w194 (w194.setCell ⟨WA.heap.size, 0, none⟩ (.int .i64 4)) := (Keeps.setCell (S := fun q => q = WA.heap.size) (Keeps.refl _ _) (p := ⟨WA.heap.size, 0, none⟩) (fun _ => rfl) _)
   have HX200 := Lib.hid hs0
   have HS201 := Lib.hid (((hkE).block _ (lt_of_heap HS195.out) (by have := HN.out; show ¬ _ = _; omega)).trans HS195.out)
   have HS202 := Lib.hid (HS197.out.keeps hkE (by have := HN.out; show ¬ _ = _; omega))
   have HK203 := Lib.hid (HK198.out.trans_new hkE (fun q hq e => by have := HN.out; omega))
   clear hkE hs0 HX196 HS195 HS197 HK198
   go_upto_region 4 with fail
   clear Sc0 Sf0 Sc1 Sf1 Sc2 Sf2 Sc3 Sf3 Sc4 Sf4 Sc5 Sf5 Xc0 Xf0 Xc1 Xf1 Xc2 Xf2 Xc3 Xf3 Xc4 Xf4 Xc5 Xf5
   generalize (w194.setCell ⟨WA.heap.size, 0, none⟩ (.int .i64 4)) = w199 at *
   obtain ⟨Sc0, Sf0, Sc1, Sf1, Sc2, Sf2, Sc3, Sf3, Sc4, Sf4, Sc5, Sf5⟩ := cf6 HS201.out
   obtain ⟨Xc0, Xf0, Xc1, Xf1, Xc2, Xf2, Xc3, Xf3, Xc4, Xf4, Xc5, Xf5⟩ := cf6 HX200.out
   go_wp2_with fail
   refine (HP2.out _ HS202.out).mono ?_
   rintro e w204 ⟨rfl, hk⟩
   have HS205 := Lib.hid (((hk.out.2).block _ (lt_of_heap HS201.out) (by have := HN.out; show ¬ _ = _; omega)).trans HS201.out)
   have HX206 := Lib.hid (((hk.out.2).block _ (lt_of_heap HX200.out) (by have := HN.out; show ¬ _ = _; omega)).trans HX200.out)
   have HS207 := Lib.hid (hk.out.1)
   have HK208 := Lib.hid (HK203.out.trans hk.out.2)
   clear Sc0 Sf0 Sc1 Sf1 Sc2 Sf2 Sc3 Sf3 Sc4 Sf4 Sc5 Sf5 Xc0 Xf0 Xc1 Xf1 Xc2 Xf2 Xc3 Xf3 Xc4 Xf4 Xc5 Xf5
   clear hk HP2 HS201 HX200 HS202 HK203
   obtain ⟨Sc0, Sf0, Sc1, Sf1, Sc2, Sf2, Sc3, Sf3, Sc4, Sf4, Sc5, Sf5⟩ := cf6 HS205.out
   obtain ⟨Xc0, Xf0, Xc1, Xf1, Xc2, Xf2, Xc3, Xf3, Xc4, Xf4, Xc5, Xf5⟩ := cf6 HX206.out
   have hs0 : (w204.setCell ⟨WA.heap.size, 1, none⟩ (.string ⟨a1.toArray⟩)).heap[WA.heap.size]? = some (.cells #[.int .i64 4, .string ⟨a1.toArray⟩, .string ⟨#[]⟩, .string ⟨#[]⟩, .string ⟨#[]⟩, .slice none 0 0] 49) := heap_set (HX206.out) 1 (.string ⟨a1.toArray⟩)
   have hs1 : ((w204.setCell ⟨WA.heap.size, 1, none⟩ (.string ⟨a1.toArray⟩)).setCell ⟨WA.heap.size, 2, none⟩ (.string ⟨a2.toArray⟩)).heap[WA.heap.size]? = some (.cells #[.int .i64 4, .string ⟨a1.toArray⟩, .string ⟨a2.toArray⟩, .string ⟨#[]⟩, .string ⟨#[]⟩, .slice none 0 0] 49) := heap_set (hs0) 2 (.string ⟨a2.toArray⟩)
   have hkE : Keeps (fun q => q = WA.heap.size) w204 ((w204.setCell ⟨WA.heap.size, 1, none⟩ (.string ⟨a1.toArray⟩)).setCell ⟨WA.heap.size, 2, none⟩ (.string ⟨a2.toArray⟩)) := (Keeps.setCell (S := fun q => q = WA.heap.size) (Keeps.setCell (S := fun q => q = WA.heap.size) (Keeps.refl _ _) (p := ⟨WA.heap.size, 1, none⟩) (fun _ => rfl) _) (p := ⟨WA.heap.size, 2, none⟩) (fun _ => rfl) _)
   have HX210 := Lib.hid hs1
   have HS211 := Lib.hid (((hkE).block _ (lt_of_heap HS205.out) (by have := HN.out; show ¬ _ = _; omega)).trans HS205.out)
   have HS212 := Lib.hid (HS207.out.keeps hkE (by have := HN.out; show ¬ _ = _; omega))
   have HK213 := Lib.hid (HK208.out.trans_new hkE (fun q hq e => by have := HN.out; omega))
   clear hkE hs0 hs1 HX206 HS205 HS207 HK208
   go_upto_region 5 with fail
   clear Sc0 Sf0 Sc1 Sf1 Sc2 Sf2 Sc3 Sf3 Sc4 Sf4 Sc5 Sf5 Xc0 Xf0 Xc1 Xf1 Xc2 Xf2 Xc3 Xf3 Xc4 Xf4 Xc5 Xf5
   generalize ((w204.setCell ⟨WA.heap.size, 1, none⟩ (.string ⟨a1.toArray⟩)).setCell ⟨WA.heap.size, 2, none⟩ (.string ⟨a2.toArray⟩)) = w209 at *
   obtain ⟨Sc0, Sf0, Sc1, Sf1, Sc2, Sf2, Sc3, Sf3, Sc4, Sf4, Sc5, Sf5⟩ := cf6 HS211.out
   obtain ⟨Xc0, Xf0, Xc1, Xf1, Xc2, Xf2, Xc3, Xf3, Xc4, Xf4, Xc5, Xf5⟩ := cf6 HX210.out
   go_upto_region 14 with fail
   obtain ⟨hs0, hkE⟩ := sx6 HX210.out (.int .i64 4) (.string ⟨a1.toArray⟩) (.string ⟨a2.toArray⟩) (.string ⟨#[]⟩) (.string ⟨#[]⟩) (.slice none 0 0)
   have HX214 := Lib.hid hs0
   have HS215 := Lib.hid (((hkE).block _ (lt_of_heap HS211.out) (by have := HN.out; show ¬ _ = _; omega)).trans HS211.out)
   have HS216 := Lib.hid (HS212.out.keeps hkE (by have := HN.out; show ¬ _ = _; omega))
   have HK217 := Lib.hid (HK213.out.trans_new hkE (fun q hq e => by have := HN.out; omega))
   clear hkE hs0 HX210 HS211 HS212 HK213
   go_wp2_with fail
   clear Sc0 Sf0 Sc1 Sf1 Sc2 Sf2 Sc3 Sf3 Sc4 Sf4 Sc5 Sf5 Xc0 Xf0 Xc1 Xf1 Xc2 Xf2 Xc3 Xf3 Xc4 Xf4 Xc5 Xf5
   generalize ((((((w209.setCell ⟨WA.heap.size, 0, none⟩ (.int .i64 4)).setCell ⟨WA.heap.size, 1, none⟩ (.string ⟨a1.toArray⟩)).setCell ⟨WA.heap.size, 2, none⟩ (.string ⟨a2.toArray⟩)).setCell ⟨WA.heap.size, 3, none⟩ (.string ⟨#[]⟩)).setCell ⟨WA.heap.size, 4, none⟩ (.string ⟨#[]⟩)).setCell ⟨WA.heap.size, 5, none⟩ (.slice none 0 0)) = WE at *
   obtain ⟨Xc0, Xf0, Xc1, Xf1, Xc2, Xf2, Xc3, Xf3, Xc4, Xf4, Xc5, Xf5⟩ := cf6 HX214.out
   refine bodyPost_ret (v := .agg #[.int .i64 4, .string ⟨a1.toArray⟩, .string ⟨a2.toArray⟩, .string ⟨#[]⟩, .string ⟨#[]⟩, .slice none 0 0]) (by simp [results, Tryz.results17, go_sem, *]) rfl ?_
   exact ⟨.slice none 0 0, rfl, HS216.out, HK217.out, RowAt.nil _ _⟩
  ·skip
   obtain ⟨⟨⟨c1, c2⟩, x3⟩, e3⟩ : ∃ q, rolD x2 s = q := ⟨_, rfl⟩
   have HP3 : Hid (∀ W, StB W 67 b x2 → Calls Tryz.prog 12 #[.pointer (some ⟨b, 0, none⟩), ShpV s] W (DrTo W 67 b (.agg #[.string ⟨c1.toArray⟩, .string ⟨c2.toArray⟩]) x3)) := fun W h => drole_at hf e3 W h
   have HE : Hid (orD s noQry askD x = ((5, (a1, a2), (c1, c2), []), x3)) := by
    show _ = _
    unfold orD
    rw [if_pos hf]
    unfold askD
    simp [e1, e2, e3, noRol]
   rw [HE.out]
   clear HE e1 e2 e3 hf 
   unfold ShpV at *
   obtain ⟨Sc0, Sf0, Sc1, Sf1, Sc2, Sf2, Sc3, Sf3, Sc4, Sf4, Sc5, Sf5⟩ := cf6 HS0.out
   obtain ⟨Xc0, Xf0, Xc1, Xf1, Xc2, Xf2, Xc3, Xf3, Xc4, Xf4, Xc5, Xf5⟩ := cf6 HX0.out
   go_enter Tryz.func17, Tryz.ntmps17
   go_wp2_with fail
   refine (HM.out _).mono ?_
   rintro e w218 ⟨rfl, hk⟩
   have HS219 := Lib.hid (((hk.out).block _ (lt_of_heap HS0.out) (fun x => x)).trans HS0.out)
   have HX220 := Lib.hid (((hk.out).block _ (lt_of_heap HX0.out) (fun x => x)).trans HX0.out)
   have HS221 := Lib.hid (HST0.out.keeps hk.out (fun x => x))
   have HK222 := Lib.hid (HK0.out.trans hk.out)
   clear Sc0 Sf0 Sc1 Sf1 Sc2 Sf2 Sc3 Sf3 Sc4 Sf4 Sc5 Sf5 Xc0 Xf0 Xc1 Xf1 Xc2 Xf2 Xc3 Xf3 Xc4 Xf4 Xc5 Xf5
   clear hk HS0 HX0 HST0 HK0
   clear HM hWA hWB
   obtain ⟨Sc0, Sf0, Sc1, Sf1, Sc2, Sf2, Sc3, Sf3, Sc4, Sf4, Sc5, Sf5⟩ := cf6 HS219.out
   obtain ⟨Xc0, Xf0, Xc1, Xf1, Xc2, Xf2, Xc3, Xf3, Xc4, Xf4, Xc5, Xf5⟩ := cf6 HX220.out
   go_wp2_with fail
   refine (HP1.out _ HS221.out).mono ?_
   rintro e w223 ⟨rfl, hk⟩
   have HS224 := Lib.hid (((hk.out.2).block _ (lt_of_heap HS219.out) (by have := HN.out; show ¬ _ = _; omega)).trans HS219.out)
   have HX225 := Lib.hid (((hk.out.2).block _ (lt_of_heap HX220.out) (by have := HN.out; show ¬ _ = _; omega)).trans HX220.out)
   have HS226 := Lib.hid (hk.out.1)
   have HK227 := Lib.hid ((HK222.out.mono (fun _ _ x => x.elim)).trans hk.out.2)
   clear Sc0 Sf0 Sc1 Sf1 Sc2 Sf2 Sc3 Sf3 Sc4 Sf4 Sc5 Sf5 Xc0 Xf0 Xc1 Xf1 Xc2 Xf2 Xc3 Xf3 Xc4 Xf4 Xc5 Xf5
   clear hk HP1 HS219 HX220 HS221 HK222
   obtain ⟨Sc0, Sf0, Sc1, Sf1, Sc2, Sf2, Sc3, Sf3, Sc4, Sf4, Sc5, Sf5⟩ := cf6 HS224.out
   obtain ⟨Xc0, Xf0, Xc1, Xf1, Xc2, Xf2, Xc3, Xf3, Xc4, Xf4, Xc5, Xf5⟩ := cf6 HX225.out
   have hs0 : (w223.setCell ⟨WA.heap.size, 0, none⟩ (.int .i64 5)).heap[WA.heap.size]? = some (.cells #[.int .i64 5, .string ⟨#[]⟩, .string ⟨#[]⟩, .string ⟨#[]⟩, .string ⟨#[]⟩, .slice none 0 0] 49) := heap_set (HX225.out) 0 (.int .i64 5)
   have hkE : Keeps (fun q => q = WA.heap.size) w223 (w223.setCell ⟨WA.heap.size, 0, none⟩ (.int .i64 5)) := (Keeps.setCell (S := fun q => q = WA.heap.size) (Keeps.refl _ _) (p := ⟨WA.heap.size, 0, none⟩) (fun _ => rfl) _)
   have HX229 := Lib.hid hs0
   have HS230 := Lib.hid (((hkE).block _ (lt_of_heap HS224.out) (by have := HN.out; show ¬ _ = _; omega)).trans HS224.out)
   have HS231 := Lib.hid (HS226.out.keeps hkE (by have := HN.out; show ¬ _ = _; omega))
   have HK232 := Lib.hid (HK227.out.trans_new hkE (fun q hq e => by have := HN.out; omega))
   clear hkE hs0 HX225 HS224 HS226 HK227
   go_upto_region 4 with fail
   clear Sc0 Sf0 Sc1 Sf1 Sc2 Sf2 Sc3 Sf3 Sc4 Sf4 Sc5 Sf5 Xc0 Xf0 Xc1 Xf1 Xc2 Xf2 Xc3 Xf3 Xc4 Xf4 Xc5 Xf5
   generalize (w223.setCell ⟨WA.heap.size, 0, none⟩ (.int .i64 5)) = w228 at *
   obtain ⟨Sc0, Sf0, Sc1, Sf1, Sc2, Sf2, Sc3, Sf3, Sc4, Sf4, Sc5, Sf5⟩ := cf6 HS230.out
   obtain ⟨Xc0, Xf0, Xc1, Xf1, Xc2, Xf2, Xc3, Xf3, Xc4, Xf4, Xc5, Xf5⟩ := cf6 HX229.out
   go_wp2_with fail
   refine (HP2.out _ HS231.out).mono ?_
   rintro e w233 ⟨rfl, hk⟩
   have HS234 := Lib.hid (((hk.out.2).block _ (lt_of_heap HS230.out) (by have := HN.out; show ¬ _ = _; omega)).trans HS230.out)
   have HX235 := Lib.hid (((hk.out.2).block _ (lt_of_heap HX229.out) (by have := HN.out; show ¬ _ = _; omega)).trans HX229.out)
   have HS236 := Lib.hid (hk.out.1)
   have HK237 := Lib.hid (HK232.out.trans hk.out.2)
   clear Sc0 Sf0 Sc1 Sf1 Sc2 Sf2 Sc3 Sf3 Sc4 Sf4 Sc5 Sf5 Xc0 Xf0 Xc1 Xf1 Xc2 Xf2 Xc3 Xf3 Xc4 Xf4 Xc5 Xf5
   clear hk HP2 HS230 HX229 HS231 HK232
   obtain ⟨Sc0, Sf0, Sc1, Sf1, Sc2, Sf2, Sc3, Sf3, Sc4, Sf4, Sc5, Sf5⟩ := cf6 HS234.out
   obtain ⟨Xc0, Xf0, Xc1, Xf1, Xc2, Xf2, Xc3, Xf3, Xc4, Xf4, Xc5, Xf5⟩ := cf6 HX235.out
   have hs0 : (w233.setCell ⟨WA.heap.size, 1, none⟩ (.string ⟨a1.toArray⟩)).heap[WA.heap.size]? = some (.cells #[.int .i64 5, .string ⟨a1.toArray⟩, .string ⟨#[]⟩, .string ⟨#[]⟩, .string ⟨#[]⟩, .slice none 0 0] 49) := heap_set (HX235.out) 1 (.string ⟨a1.toArray⟩)
   have hs1 : ((w233.setCell ⟨WA.heap.size, 1, none⟩ (.string ⟨a1.toArray⟩)).setCell ⟨WA.heap.size, 2, none⟩ (.string ⟨a2.toArray⟩)).heap[WA.heap.size]? = some (.cells #[.int .i64 5, .string ⟨a1.toArray⟩, .string ⟨a2.toArray⟩, .string ⟨#[]⟩, .string ⟨#[]⟩, .slice none 0 0] 49) := heap_set (hs0) 2 (.string ⟨a2.toArray⟩)
   have hkE : Keeps (fun q => q = WA.heap.size) w233 ((w233.setCell ⟨WA.heap.size, 1, none⟩ (.string ⟨a1.toArray⟩)).setCell ⟨WA.heap.size, 2, none⟩ (.string ⟨a2.toArray⟩)) := (Keeps.setCell (S := fun q => q = WA.heap.size) (Keeps.setCell (S := fun q => q = WA.heap.size) (Keeps.refl _ _) (p := ⟨WA.heap.size, 1, none⟩) (fun _ => rfl) _) (p := ⟨WA.heap.size, 2, none⟩) (fun _ => rfl) _)
   have HX239 := Lib.hid hs1
   have HS240 := Lib.hid (((hkE).block _ (lt_of_heap HS234.out) (by have := HN.out; show ¬ _ = _; omega)).trans HS234.out)
   have HS241 := Lib.hid (HS236.out.keeps hkE (by have := HN.out; show ¬ _ = _; omega))
   have HK242 := Lib.hid (HK237.out.trans_new hkE (fun q hq e => by have := HN.out; omega))
   clear hkE hs0 hs1 HX235 HS234 HS236 HK237
   go_upto_region 5 with fail
   clear Sc0 Sf0 Sc1 Sf1 Sc2 Sf2 Sc3 Sf3 Sc4 Sf4 Sc5 Sf5 Xc0 Xf0 Xc1 Xf1 Xc2 Xf2 Xc3 Xf3 Xc4 Xf4 Xc5 Xf5
   generalize ((w233.setCell ⟨WA.heap.size, 1, none⟩ (.string ⟨a1.toArray⟩)).setCell ⟨WA.heap.size, 2, none⟩ (.string ⟨a2.toArray⟩)) = w238 at *
   obtain ⟨Sc0, Sf0, Sc1, Sf1, Sc2, Sf2, Sc3, Sf3, Sc4, Sf4, Sc5, Sf5⟩ := cf6 HS240.out
   obtain ⟨Xc0, Xf0, Xc1, Xf1, Xc2, Xf2, Xc3, Xf3, Xc4, Xf4, Xc5, Xf5⟩ := cf6 HX239.out
   go_upto_region 13 with fail
   go_wp2_with fail
   refine (HP3.out _ HS241.out).mono ?_
   rintro e w243 ⟨rfl, hk⟩
   have HS244 := Lib.hid (((hk.out.2).block _ (lt_of_heap HS240.out) (by have := HN.out; show ¬ _ = _; omega)).trans HS240.out)
   have HX245 := Lib.hid (((hk.out.2).block _ (lt_of_heap HX239.out) (by have := HN.out; show ¬ _ = _; omega)).trans HX239.out)
   have HS246 := Lib.hid (hk.out.1)
   have HK247 := Lib.hid (HK242.out.trans hk.out.2)
   clear Sc0 Sf0 Sc1 Sf1 Sc2 Sf2 Sc3 Sf3 Sc4 Sf4 Sc5 Sf5 Xc0 Xf0 Xc1 Xf1 Xc2 Xf2 Xc3 Xf3 Xc4 Xf4 Xc5 Xf5
   clear hk HP3 HS240 HX239 HS241 HK242
   obtain ⟨Sc0, Sf0, Sc1, Sf1, Sc2, Sf2, Sc3, Sf3, Sc4, Sf4, Sc5, Sf5⟩ := cf6 HS244.out
   obtain ⟨Xc0, Xf0, Xc1, Xf1, Xc2, Xf2, Xc3, Xf3, Xc4, Xf4, Xc5, Xf5⟩ := cf6 HX245.out
   have hs0 : (w243.setCell ⟨WA.heap.size, 3, none⟩ (.string ⟨c1.toArray⟩)).heap[WA.heap.size]? = some (.cells #[.int .i64 5, .string ⟨a1.toArray⟩, .string ⟨a2.toArray⟩, .string ⟨c1.toArray⟩, .string ⟨#[]⟩, .slice none 0 0] 49) := heap_set (HX245.out) 3 (.string ⟨c1.toArray⟩)
   have hs1 : ((w243.setCell ⟨WA.heap.size, 3, none⟩ (.string ⟨c1.toArray⟩)).setCell ⟨WA.heap.size, 4, none⟩ (.string ⟨c2.toArray⟩)).heap[WA.heap.size]? = some (.cells #[.int .i64 5, .string ⟨a1.toArray⟩, .string ⟨a2.toArray⟩, .string ⟨c1.toArray⟩, .string ⟨c2.toArray⟩, .slice none 0 0] 49) := heap_set (hs0) 4 (.string ⟨c2.toArray⟩)
   have hkE : Keeps (fun q => q = WA.heap.size) w243 ((w243.setCell ⟨WA.heap.size, 3, none⟩ (.string ⟨c1.toArray⟩)).setCell ⟨WA.heap.size, 4, none⟩ (.string ⟨c2.toArray⟩)) := (Keeps.setCell (S := fun q => q = WA.heap.size) (Keeps.setCell (S := fun q => q = WA.heap.size) (Keeps.refl _ _) (p := ⟨WA.heap.size, 3, none⟩) (fun _ => rfl) _) (p := ⟨WA.heap.size, 4, none⟩) (fun _ => rfl) _)
   have HX249 := Lib.hid hs1
   have HS250 := Lib.hid (((hkE).block _ (lt_of_heap HS244.out) (by have := HN.out; show ¬ _ = _; omega)).trans HS244.out)
   have HS251 := Lib.hid (HS246.out.keeps hkE (by have := HN.out; show ¬ _ = _; omega))
   have HK252 := Lib.hid (HK247.out.trans_new hkE (fun q hq e => by have := HN.out; omega))
   clear hkE hs0 hs1 HX245 HS244 HS246 HK247
   go_upto_region 14 with fail
   clear Sc0 Sf0 Sc1 Sf1 Sc2 Sf2 Sc3 Sf3 Sc4 Sf4 Sc5 Sf5 Xc0 Xf0 Xc1 Xf1 Xc2 Xf2 Xc3 Xf3 Xc4 Xf4 Xc5 Xf5
   generalize ((w243.setCell ⟨WA.heap.size, 3, none⟩ (.string ⟨c1.toArray⟩)).setCell ⟨WA.heap.size, 4, none⟩ (.string ⟨c2.toArray⟩)) = w248 at *
   obtain ⟨Sc0, Sf0, Sc1, Sf1, Sc2, Sf2, Sc3, Sf3, Sc4, Sf4, Sc5, Sf5⟩ := cf6 HS250.out
   obtain ⟨Xc0, Xf0, Xc1, Xf1, Xc2, Xf2, Xc3, Xf3, Xc4, Xf4, Xc5, Xf5⟩ := cf6 HX249.out
   obtain ⟨hs0, hkE⟩ := sx6 HX249.out (.int .i64 5) (.string ⟨a1.toArray⟩) (.string ⟨a2.toArray⟩) (.string ⟨c1.toArray⟩) (.string ⟨c2.toArray⟩) (.slice none 0 0)
   have HX253 := Lib.hid hs0
   have HS254 := Lib.hid (((hkE).block _ (lt_of_heap HS250.out) (by have := HN.out; show ¬ _ = _; omega)).trans HS250.out)
   have HS255 := Lib.hid (HS251.out.keeps hkE (by have := HN.out; show ¬ _ = _; omega))
   have HK256 := Lib.hid (HK252.out.trans_new hkE (fun q hq e => by have := HN.out; omega))
   clear hkE hs0 HX249 HS250 HS251 HK252
   go_wp2_with fail
   clear Sc0 Sf0 Sc1 Sf1 Sc2 Sf2 Sc3 Sf3 Sc4 Sf4 Sc5 Sf5 Xc0 Xf0 Xc1 Xf1 Xc2 Xf2 Xc3 Xf3 Xc4 Xf4 Xc5 Xf5
   generalize ((((((w248.setCell ⟨WA.heap.size, 0, none⟩ (.int .i64 5)).setCell ⟨WA.heap.size, 1, none⟩ (.string ⟨a1.toArray⟩)).setCell ⟨WA.heap.size, 2, none⟩ (.string ⟨a2.toArray⟩)).setCell ⟨WA.heap.size, 3, none⟩ (.string ⟨c1.toArray⟩)).setCell ⟨WA.heap.size, 4, none⟩ (.string ⟨c2.toArray⟩)).setCell ⟨WA.heap.size, 5, none⟩ (.slice none 0 0)) = WE at *
   obtain ⟨Xc0, Xf0, Xc1, Xf1, Xc2, Xf2, Xc3, Xf3, Xc4, Xf4, Xc5, Xf5⟩ := cf6 HX253.out
   refine bodyPost_ret (v := .agg #[.int .i64 5, .string ⟨a1.toArray⟩, .string ⟨a2.toArray⟩, .string ⟨c1.toArray⟩, .string ⟨c2.toArray⟩, .slice none 0 0]) (by simp [results, Tryz.results17, go_sem, *]) rfl ?_
   exact ⟨.slice none 0 0, rfl, HS255.out, HK256.out, RowAt.nil _ _⟩
  ·skip
   obtain ⟨⟨⟨c1, c2⟩, x3⟩, e3⟩ : ∃ q, rolD x2 s = q := ⟨_, rfl⟩
   have HP3 : Hid (∀ W, StB W 67 b x2 → Calls Tryz.prog 12 #[.pointer (some ⟨b, 0, none⟩), ShpV s] W (DrTo W 67 b (.agg #[.string ⟨c1.toArray⟩, .string ⟨c2.toArray⟩]) x3)) := fun W h => drole_at hf e3 W h
   have HE : Hid (orD s noQry askD x = ((6, (a1, a2), (c1, c2), []), x3)) := by
    show _ = _
    unfold orD
    rw [if_pos hf]
    unfold askD
    simp [e1, e2, e3, noRol]
   rw [HE.out]
   clear HE e1 e2 e3 hf 
   unfold ShpV at *
   obtain ⟨Sc0, Sf0, Sc1, Sf1, Sc2, Sf2, Sc3, Sf3, Sc4, Sf4, Sc5, Sf5⟩ := cf6 HS0.out
   obtain ⟨Xc0, Xf0, Xc1, Xf1, Xc2, Xf2, Xc3, Xf3, Xc4, Xf4, Xc5, Xf5⟩ := cf6 HX0.out
   go_enter Tryz.func17, Tryz.ntmps17
   go_wp2_with fail
   refine (HM.out _).mono ?_
   rintro e w257 ⟨rfl, hk⟩
   have HS258 := Lib.hid (((hk.out).block _ (lt_of_heap HS0.out) (fun x => x)).trans HS0.out)
   have HX259 := Lib.hid (((hk.out).block _ (lt_of_heap HX0.out) (fun x => x)).trans HX0.out)
   have HS260 := Lib.hid (HST0.out.keeps hk.out (fun x => x))
   have HK261 := Lib.hid (HK0.out.trans hk.out)
   clear Sc0 Sf0 Sc1 Sf1 Sc2 Sf2 Sc3 Sf3 Sc4 Sf4 Sc5 Sf5 Xc0 Xf0 Xc1 Xf1 Xc2 Xf2 Xc3 Xf3 Xc4 Xf4 Xc5 Xf5
   clear hk HS0 HX0 HST0 HK0
   clear HM hWA hWB
   obtain ⟨Sc0, Sf0, Sc1, Sf1, Sc2, Sf2, Sc3, Sf3, Sc4, Sf4, Sc5, Sf5⟩ := cf6 HS258.out
   obtain ⟨Xc0, Xf0, Xc1, Xf1, Xc2, Xf2, Xc3, Xf3, Xc4, Xf4, Xc5, Xf5⟩ := cf6 HX259.out
   go_wp2_with fail
   refine (HP1.out _ HS260.out).mono ?_
   rintro e w262 ⟨rfl, hk⟩
   have HS263 := Lib.hid (((hk.out.2).block _ (lt_of_heap HS258.out) (by have := HN.out; show ¬ _ = _; omega)).trans HS258.out)
   have HX264 := Lib.hid (((hk.out.2).block _ (lt_of_heap HX259.out) (by have := HN.out; show ¬ _ = _; omega)).trans HX259.out)
   have HS265 := Lib.hid (hk.out.1)
   have HK266 := Lib.hid ((HK261.out.mono (fun _ _ x => x.elim)).trans hk.out.2)
   clear Sc0 Sf0 Sc1 Sf1 Sc2 Sf2 Sc3 Sf3 Sc4 Sf4 Sc5 Sf5 Xc0 Xf0 Xc1 Xf1 Xc2 Xf2 Xc3 Xf3 Xc4 Xf4 Xc5 Xf5
   clear hk HP1 HS258 HX259 HS260 HK261
   obtain ⟨Sc0, Sf0, Sc1, Sf1, Sc2, Sf2, Sc3, Sf3, Sc4, Sf4, Sc5, Sf5⟩ := cf6 HS263.out
   obtain ⟨Xc0, Xf0, Xc1, Xf1, Xc2, Xf2, Xc3, Xf3, Xc4, Xf4, Xc5, Xf5⟩ := cf6 HX264.out
   have hs0 : (w262.setCell ⟨WA.heap.size, 0, none⟩ (.int .i64 6)).heap[WA.heap.size]? = some (.cells #[.int .i64 6, .string ⟨#[]⟩, .string ⟨#[]⟩, .string ⟨#[]⟩, .string ⟨#[]⟩, .slice none 0 0] 49) := heap_set (HX264.out) 0 (.int .i64 6)
   have hkE : Keeps (fun q => q = WA.heap.size) w262 (w262.setCell ⟨WA.heap.size, 0, none⟩ (.int .i64 6)) := (Keeps.setCell (S := fun q => q = WA.heap.size) (Keeps.refl _ _) (p := ⟨WA.heap.size, 0, none⟩) (fun _ => rfl) _)
   have HX268 := Lib.hid hs0
   have HS269 := Lib.hid (((hkE).block _ (lt_of_heap HS263.out) (by have := HN.out; show ¬ _ = _; omega)).trans HS263.out)
   have HS270 := Lib.hid (HS265.out.keeps hkE (by have := HN.out; show ¬ _ = _; omega))
   have HK271 := Lib.hid (HK266.out.trans_new hkE (fun q hq e => by have := HN.out; omega))
   clear hkE hs0 HX264 HS263 HS265 HK266
   go_upto_region 4 with fail
   clear Sc0 Sf0 Sc1 Sf1 Sc2 Sf2 Sc3 Sf3 Sc4 Sf4 Sc5 Sf5 Xc0 Xf0 Xc1 Xf1 Xc2 Xf2 Xc3 Xf3 Xc4 Xf4 Xc5 Xf5
   generalize (w262.setCell ⟨WA.heap.size, 0, none⟩ (.int .i64 6)) = w267 at *
   obtain ⟨Sc0, Sf0, Sc1, Sf1, Sc2, Sf2, Sc3, Sf3, Sc4, Sf4, Sc5, Sf5⟩ := cf6 HS269.out
   obtain ⟨Xc0, Xf0, Xc1, Xf1, Xc2, Xf2, Xc3, Xf3, Xc4, Xf4, Xc5, Xf5⟩ := cf6 HX268.out
   go_wp2_with fail
   refine (HP2.out _ HS270.out).mono ?_
   rintro e w272 ⟨rfl, hk⟩
   have HS273 := Lib.hid (((hk.out.2).block _ (lt_of_heap HS269.out) (by have := HN.out; show ¬ _ = _; omega)).trans HS269.out)
   have HX274 := Lib.hid (((hk.out.2).block _ (lt_of_heap HX268.out) (by have := HN.out; show ¬ _ = _; omega)).trans HX268.out)
   have HS275 := Lib.hid (hk.out.1)
   have HK276 := Lib.hid (HK271.out.trans hk.out.2)
   clear Sc0 Sf0 Sc1 Sf1 Sc2 Sf2 Sc3 Sf3 Sc4 Sf4 Sc5 Sf5 Xc0 Xf0 Xc1 Xf1 Xc2 Xf2 Xc3 Xf3 Xc4 Xf4 Xc5 Xf5
   clear hk HP2 HS269 HX268 HS270 HK271
   obtain ⟨Sc0, Sf0, Sc1, Sf1, Sc2, Sf2, Sc3, Sf3, Sc4, Sf4, Sc5, Sf5⟩ := cf6 HS273.out
   obtain ⟨Xc0, Xf0, Xc1, Xf1, Xc2, Xf2, Xc3, Xf3, Xc4, Xf4, Xc5, Xf5⟩ := cf6 HX274.out
   have hs0 : (w272.setCell ⟨WA.heap.size, 1, none⟩ (.string ⟨a1.toArray⟩)).heap[WA.heap.size]? = some (.cells #[.int .i64 6, .string ⟨a1.toArray⟩, .string ⟨#[]⟩, .string ⟨#[]⟩, .string ⟨#[]⟩, .slice none 0 0] 49) := heap_set (HX274.out) 1 (.string ⟨a1.toArray⟩)
   have hs1 : ((w272.setCell ⟨WA.heap.size, 1, none⟩ (.string ⟨a1.toArray⟩)).setCell ⟨WA.heap.size, 2, none⟩ (.string ⟨a2.toArray⟩)).heap[WA.heap.size]? = some (.cells #[.int .i64 6, .string ⟨a1.toArray⟩, .string ⟨a2.toArray⟩, .string ⟨#[]⟩, .string ⟨#[]⟩, .slice none 0 0] 49) := heap_set (hs0) 2 (.string ⟨a2.toArray⟩)
   have hkE : Keeps (fun q => q = WA.heap.size) w272 ((w272.setCell ⟨WA.heap.size, 1, none⟩ (.string ⟨a1.toArray⟩)).setCell ⟨WA.heap.size, 2, none⟩ (.string ⟨a2.toArray⟩)) := (Keeps.setCell (S := fun q => q = WA.heap.size) (Keeps.setCell (S := fun q => q = WA.heap.size) (Keeps.refl _ _) (p := ⟨WA.heap.size, 1, none⟩) (fun _ => rfl) _) (p := ⟨WA.heap.size, 2, none⟩) (fun _ => rfl) _)
   have HX278 := Lib.hid hs1
   have HS279 := Lib.hid (((hkE).block _ (lt_of_heap HS273.out) (by have := HN.out; show ¬ _ = _; omega)).trans HS273.out)
   have HS280 := Lib.hid (HS275.out.keeps hkE (by have := HN.out; show ¬ _ = _; omega))
   have HK281 := Lib.hid (HK276.out.trans_new hkE (fun q hq e => by have := HN.out; omega))
   clear hkE hs0 hs1 HX274 HS273 HS275 HK276
   go_upto_region 5 with fail
   clear Sc0 Sf0 Sc1 Sf1 Sc2 Sf2 Sc3 Sf3 Sc4 Sf4 Sc5 Sf5 Xc0 Xf0 Xc1 Xf1 Xc2 Xf2 Xc3 Xf3 Xc4 Xf4 Xc5 Xf5
   generalize ((w272.setCell ⟨WA.heap.size, 1, none⟩ (.string ⟨a1.toArray⟩)).setCell ⟨WA.heap.size, 2, none⟩ (.string ⟨a2.toArray⟩)) = w277 at *
   obtain ⟨Sc0, Sf0, Sc1, Sf1, Sc2, Sf2, Sc3, Sf3, Sc4, Sf4, Sc5, Sf5⟩ := cf6 HS279.out
   obtain ⟨Xc0, Xf0, Xc1, Xf1, Xc2, Xf2, Xc3, Xf3, Xc4, Xf4, Xc5, Xf5⟩ := cf6 HX278.out
   go_upto_region 13 with fail
   go_wp2_with fail
   refine (HP3.out _ HS280.out).mono ?_
   rintro e w282 ⟨rfl, hk⟩
   have HS283 := Lib.hid (((hk.out.2).block _ (lt_of_heap HS279.out) (by have := HN.out; show ¬ _ = _; omega)).trans HS279.out)
   have HX284 := Lib.hid (((hk.out.2).block _ (lt_of_heap HX278.out) (by have := HN.out; show ¬ _ = _; omega)).trans HX278.out)
   have HS285 := Lib.hid (hk.out.1)
   have HK286 := Lib.hid (HK281.out.trans hk.out.2)
   clear Sc0 Sf0 Sc1 Sf1 Sc2 Sf2 Sc3 Sf3 Sc4 Sf4 Sc5 Sf5 Xc0 Xf0 Xc1 Xf1 Xc2 Xf2 Xc3 Xf3 Xc4 Xf4 Xc5 Xf5
   clear hk HP3 HS279 HX278 HS280 HK281
   obtain ⟨Sc0, Sf0, Sc1, Sf1, Sc2, Sf2, Sc3, Sf3, Sc4, Sf4, Sc5, Sf5⟩ := cf6 HS283.out
   obtain ⟨Xc0, Xf0, Xc1, Xf1, Xc2, Xf2, Xc3, Xf3, Xc4, Xf4, Xc5, Xf5⟩ := cf6 HX284.out
   have hs0 : (w282.setCell ⟨WA.heap.size, 3, none⟩ (.string ⟨c1.toArray⟩)).heap[WA.heap.size]? = some (.cells #[.int .i64 6, .string ⟨a1.toArray⟩, .string ⟨a2.toArray⟩, .string ⟨c1.toArray⟩, .string ⟨#[]⟩, .slice none 0 0] 49) := heap_set (HX284.out) 3 (.string ⟨c1.toArray⟩)
   have hs1 : ((w282.setCell ⟨WA.heap.size, 3, none⟩ (.string ⟨c1.toArray⟩)).setCell ⟨WA.heap.size, 4, none⟩ (.string ⟨c2.toArray⟩)).heap[WA.heap.size]? = some (.cells #[.int .i64 6, .string ⟨a1.toArray⟩, .string ⟨a2.toArray⟩, .string ⟨c1.toArray⟩, .string ⟨c2.toArray⟩, .slice none 0 0] 49) := heap_set (hs0) 4 (.string ⟨c2.toArray⟩)
   have hkE : Keeps (fun q => q = WA.heap.size) w282 ((w282.setCell ⟨WA.heap.size, 3, none⟩ (.string ⟨c1.toArray⟩)).setCell ⟨WA.heap.size, 4, none⟩ (.string ⟨c2.toArray⟩)) := (Keeps.setCell (S := fun q => q = WA.heap.size) (Keeps.setCell (S := fun q => q = WA.heap.size) (Keeps.refl _ _) (p := ⟨WA.heap.size, 3, none⟩) (fun _ => rfl) _) (p := ⟨WA.heap.size, 4, none⟩) (fun _ => rfl) _)
   have HX288 := Lib.hid hs1
   have HS289 := Lib.hid (((hkE).block _ (lt_of_heap HS283.out) (by have := HN.out; show ¬ _ = _; omega)).trans HS283.out)
   have HS290 := Lib.hid (HS285.out.keeps hkE (by have := HN.out; show ¬ _ = _; omega))
   have HK291 := Lib.hid (HK286.out.trans_new hkE (fun q hq e => by have := HN.out; omega))
   clear hkE hs0 hs1 HX284 HS283 HS285 HK286
   go_upto_region 14 with fail
   clear Sc0 Sf0 Sc1 Sf1 Sc2 Sf2 Sc3 Sf3 Sc4 Sf4 Sc5 Sf5 Xc0 Xf0 Xc1 Xf1 Xc2 Xf2 Xc3 Xf3 Xc4 Xf4 Xc5 Xf5
   generalize ((w282.setCell ⟨WA.heap.size, 3, none⟩ (.string ⟨c1.toArray⟩)).setCell ⟨WA.heap.size, 4, none⟩ (.string ⟨c2.toArray⟩)) = w287 at *
   obtain ⟨Sc0, Sf0, Sc1, Sf1, Sc2, Sf2, Sc3, Sf3, Sc4, Sf4, Sc5, Sf5⟩ := cf6 HS289.out
   obtain ⟨Xc0, Xf0, Xc1, Xf1, Xc2, Xf2, Xc3, Xf3, Xc4, Xf4, Xc5, Xf5⟩ := cf6 HX288.out
   obtain ⟨hs0, hkE⟩ := sx6 HX288.out (.int .i64 6) (.string ⟨a1.toArray⟩) (.string ⟨a2.toArray⟩) (.string ⟨c1.toArray⟩) (.string ⟨c2.toArray⟩) (.slice none 0 0)
   have HX292 := Lib.hid hs0
   have HS293 := Lib.hid (((hkE).block _ (lt_of_heap HS289.out) (by have := HN.out; show ¬ _ = _; omega)).trans HS289.out)
   have HS294 := Lib.hid (HS290.out.keeps hkE (by have := HN.out; show ¬ _ = _; omega))
   have HK295 := Lib.hid (HK291.out.trans_new hkE (fun q hq e => by have := HN.out; omega))
   clear hkE hs0 HX288 HS289 HS290 HK291
   go_wp2_with fail
   clear Sc0 Sf0 Sc1 Sf1 Sc2 Sf2 Sc3 Sf3 Sc4 Sf4 Sc5 Sf5 Xc0 Xf0 Xc1 Xf1 Xc2 Xf2 Xc3 Xf3 Xc4 Xf4 Xc5 Xf5
   generalize ((((((w287.setCell ⟨WA.heap.size, 0, none⟩ (.int .i64 6)).setCell ⟨WA.heap.size, 1, none⟩ (.string ⟨a1.toArray⟩)).setCell ⟨WA.heap.size, 2, none⟩ (.string ⟨a2.toArray⟩)).setCell ⟨WA.heap.size, 3, none⟩ (.string ⟨c1.toArray⟩)).setCell ⟨WA.heap.size, 4, none⟩ (.string ⟨c2.toArray⟩)).setCell ⟨WA.heap.size, 5, none⟩ (.slice none 0 0)) = WE at *
   obtain ⟨Xc0, Xf0, Xc1, Xf1, Xc2, Xf2, Xc3, Xf3, Xc4, Xf4, Xc5, Xf5⟩ := cf6 HX292.out
   refine bodyPost_ret (v := .agg #[.int .i64 6, .string ⟨a1.toArray⟩, .string ⟨a2.toArray⟩, .string ⟨c1.toArray⟩, .string ⟨c2.toArray⟩, .slice none 0 0]) (by simp [results, Tryz.results17, go_sem, *]) rfl ?_
   exact ⟨.slice none 0 0, rfl, HS294.out, HK295.out, RowAt.nil _ _⟩
end
end Go.Proofs.YtcdfpnlaklaafaaGreat
