/-
 The drawing of queries: the document's.
-/
import Derived.Test.YtcdfpnlaklaafaaGreatDrillAsk
set_option linter.unusedVariables false
set_option linter.unusedSimpArgs false
set_option linter.unnecessarySimpa false
namespace Go.Proofs.YtcdfpnlaklaafaaGreat
open Go.ChangeShapes Go.WideShapes Go.ChangeAt Go.RowKit Go.Deep
theorem puts_snoc (l : List Str) (u : Str) : (l ++ [u]).foldl putS [] = putS (l.foldl putS []) u := by rw [List.foldl_append]; rfl
theorem wpAnyH_two {P : Program} {md : Region.Mode} {ops : Array Oper} {Q : Exit → Act → World → Prop} {S : World → Prop} {i j : Nat} {o o2 : Oper} {rest rest2 : List Oper} {fuel : Nat} {listed : Array Bool} {a : Act} {w : World} (hr : Region.ready md ops listed = [i, j]) (hi : ops.toList.drop i = o :: rest) (hj : ops.toList.drop j = o2 :: rest2)
  (h : ∀ K' : Act → World → Prop, Shut (∀ a w, S w → (S w → wpAnyH P md ops Q S fuel (listed.setIfInBounds i true) a w) → K' a w) → if Region.wanted o (yielded ops a.tmps) = true then Oper.wp P o a w K' Q else K' (a.put o.dst undef) w)
  (h2 : ∀ K' : Act → World → Prop, Shut (∀ a w, S w → (S w → wpAnyH P md ops Q S fuel (listed.setIfInBounds j true) a w) → K' a w) → if Region.wanted o2 (yielded ops a.tmps) = true then Oper.wp P o2 a w K' Q else K' (a.put o2.dst undef) w) :
  wpAnyH P md ops Q S (fuel + 1) listed a w :=
 wpAnyH_ready hr (by simp) (AllReadyH.cons (get_at hi) h (AllReadyH.cons (get_at hj) h2 AllReadyH.nil))
theorem put_pos (l : List Str) (u : Str) : 0 < (putS l u).length := by
 have h : u ∈ putS l u := (put_mem l u u).2 (.inr rfl)
 exact List.length_pos_of_mem h
section
variable {W : World} {b : Nat} {x : Int}
set_option maxRecDepth 100000
set_option maxHeartbeats 6400000
theorem rask_spec {s : Shp} (hf : fitsD s = true) (h : StB W 30 b x) :
  Calls Tryz.prog 15 #[.pointer (some ⟨b, 0, none⟩), ShpV s] W (AskTo W 30 b (askD x s).1 (askD x s).2) := by
 have hfn : s.prins ≤ 9223372036854775807 := by
  have q := hf
  unfold fitsD at q
  rw [decide_eq_true_eq] at q
  omega
 have hbl := lt_of_heap h.1
 have hal := (MapKept.heap_alloc W (.cells #[.int .i64 s.prins, .int .i64 s.links, .int .i64 s.stmts, .int .i64 s.grow, .int .i64 s.shrink, .int .i64 s.asks] 24)).1
 obtain ⟨WA, hWA⟩ : ∃ WA, W.alloc (.cells #[.int .i64 s.prins, .int .i64 s.links, .int .i64 s.stmts, .int .i64 s.grow, .int .i64 s.shrink, .int .i64 s.asks] 24) = WA := ⟨_, rfl⟩
 have hkA : Keeps (fun _ => False) W WA := by rw [← hWA]; exact (Keeps.refl _ _).alloc _
 have hsz : WA.heap.size = W.heap.size + 1 := by rw [← hWA]; simp
 rw [hWA] at hal
 have hal2 := (MapKept.heap_alloc WA (.cells #[.int .i64 0, .string ⟨#[]⟩, .string ⟨#[]⟩, .string ⟨#[]⟩, .string ⟨#[]⟩, .slice none 0 0] 49)).1
 obtain ⟨WB, hWB⟩ : ∃ WB, WA.alloc (.cells #[.int .i64 0, .string ⟨#[]⟩, .string ⟨#[]⟩, .string ⟨#[]⟩, .string ⟨#[]⟩, .slice none 0 0] 49) = WB := ⟨_, rfl⟩
 have hkB : Keeps (fun _ => False) WA WB := by rw [← hWB]; exact (Keeps.refl _ _).alloc _
 rw [hWB] at hal2
 have HS0 : Hid (WB.heap[W.heap.size]? = some (.cells #[.int .i64 s.prins, .int .i64 s.links, .int .i64 s.stmts, .int .i64 s.grow, .int .i64 s.shrink, .int .i64 s.asks] 24)) := (hkB.block _ (lt_of_heap hal) (fun x => x)).trans hal
 have HX0 := Lib.hid hal2
 have HK0 := Lib.hid (hkA.trans hkB)
 have HST0 := Lib.hid (h.keeps HK0.out (fun x => x))
 have HN : Hid (W.heap.size ≠ b ∧ WA.heap.size ≠ b ∧ WA.heap.size ≠ W.heap.size ∧ W.heap.size ≤ WA.heap.size ∧ b < W.heap.size) := ⟨by omega, by omega, by omega, by omega, hbl⟩
 clear hal hal2 hkA hkB hsz hbl h
 obtain ⟨⟨k, x1⟩, e1⟩ : ∃ q, belD x 6 = q := ⟨_, rfl⟩
 have hk := belD_range (x := x) (n := 6) (by omega)
 rw [e1] at hk
 simp only at hk
 obtain ⟨⟨⟨a1, a2⟩, x2⟩, e2⟩ : ∃ q, rolD x1 s = q := ⟨_, rfl⟩
 have HP1 : Hid (∀ W, StB W 30 b x → Calls Tryz.prog 9 #[.pointer (some ⟨b, 0, none⟩), .int .i64 6] W (DrTo W 30 b (.int .i64 k) x1)) := fun W h => rbelow_at (by omega) e1 W h
 have HP2 : Hid (∀ W, StB W 30 b x1 → Calls Tryz.prog 11 #[.pointer (some ⟨b, 0, none⟩), ShpV s] W (DrTo W 30 b (.agg #[.string ⟨a1.toArray⟩, .string ⟨a2.toArray⟩]) x2)) := fun W h => rrole_at hf e2 W h
 have HPB : Hid (∀ (y : Int) (W : World), StB W 30 b y → Calls Tryz.prog 9 #[.pointer (some ⟨b, 0, none⟩), .int .i64 s.prins] W (DrTo W 30 b (.int .i64 (belD y s.prins).1) (belD y s.prins).2)) := fun y W h => rbelow_spec hfn h
 have HPL : Hid (∀ (y : Int) (W : World), Calls Tryz.prog 26 #[.int .u8 65, .int .i64 (belD y s.prins).1] W fun e W' => e = .returned (encStr8 (prinD y s).1) ∧ Hid (Keeps (fun _ => False) W W')) := fun y W => rletter_spec (.inl rfl) (prin_letters hf).1 (prin_letters hf).2
 have HPS : Hid (∀ y, (prinD y s).2 = (belD y s.prins).2) := fun y => rfl
 have hkk : k = 0 ∨ k = 1 ∨ k = 2 ∨ k = 3 ∨ k = 4 ∨ k = 5 := by omega
 clear hk
 rcases hkk with rfl | rfl | rfl | rfl | rfl | rfl
 ·skip
  obtain ⟨⟨n, x3⟩, e3⟩ : ∃ q, belD x2 2 = q := ⟨_, rfl⟩
  have hn := belD_range (x := x2) (n := 2) (by omega)
  rw [e3] at hn
  simp only at hn
  obtain ⟨m, hm⟩ : ∃ m : Nat, (m : Int) = 1 + n := ⟨(1 + n).toNat, by omega⟩
  have hmt : (1 + n).toNat = m := by omega
  have hm10 : m ≤ 1000 := by omega
  have HP3 : Hid (∀ W, StB W 30 b x2 → Calls Tryz.prog 9 #[.pointer (some ⟨b, 0, none⟩), .int .i64 2] W (DrTo W 30 b (.int .i64 n) x3)) := fun W h => by
   have q := rbelow_at (by omega) e3 W h
   exact q
  obtain ⟨wl, hwl⟩ : ∃ q, ((whoD s m x3).1).foldl putS [] = q := ⟨_, rfl⟩
  have hwl2 : sortO (· < ·) (whoD s m x3).1 = wl := by rw [sortO_tab, ← puts_tab]; exact hwl
  obtain ⟨x4, hx4⟩ : ∃ q, (whoD s m x3).2 = q := ⟨_, rfl⟩
  have HSU : Hid (∀ i, (whoD s (i + 1) x3).1 = (whoD s i x3).1 ++ [(prinD (whoD s i x3).2 s).1] ∧ (whoD s (i + 1) x3).2 = (prinD (whoD s i x3).2 s).2) := fun i => who_succ s i x3
  have HLE : Hid (∀ i, ((whoD s i x3).1.foldl putS []).length ≤ i) := fun i => by
   have q := puts_len (whoD s i x3).1 []
   rw [who_len s i x3] at q
   simpa using q
  have HFIN : Hid (((whoD s m x3).1).foldl putS [] = wl ∧ (whoD s m x3).2 = x4) := ⟨hwl, hx4⟩
  have HFST : Hid (((whoD s 0 x3).1).foldl putS [] = [] ∧ (whoD s 0 x3).2 = x3) := ⟨rfl, rfl⟩
  have hw : IntKind.i64.wrap (n + 1) = (m : Int) := by rw [hm, Int.add_comm 1 n]; exact IntWalk.i64_in _ (by omega)
  have HE : Hid (askD x s = ((1, (a1, a2), ([], []), wl), x4)) := by
   show _ = _
   unfold askD
   simp [e1, e2, e3, hmt, hwl2, hx4, noRol]
  rw [HE.out]
  clear HE e1 e2 e3 hmt hwl2 hx4 hf hfn hwl hm
  unfold ShpV encStr8 at *
  obtain ⟨Sc0, Sf0, Sc1, Sf1, Sc2, Sf2, Sc3, Sf3, Sc4, Sf4, Sc5, Sf5⟩ := cf6 HS0.out
  obtain ⟨Xc0, Xf0, Xc1, Xf1, Xc2, Xf2, Xc3, Xf3, Xc4, Xf4, Xc5, Xf5⟩ := cf6 HX0.out
  go_enter Tryz.func15, Tryz.ntmps15
  go_wp2_with fail
  refine (HP1.out _ HST0.out).mono ?_
  rintro e w1 ⟨rfl, hk⟩
  have HS2 := Lib.hid (((hk.out.2).block _ (lt_of_heap HS0.out) (by have := HN.out; show ¬ _ = _; omega)).trans HS0.out)
  have HX3 := Lib.hid (((hk.out.2).block _ (lt_of_heap HX0.out) (by have := HN.out; show ¬ _ = _; omega)).trans HX0.out)
  have HS4 := Lib.hid (hk.out.1)
  have HK5 := Lib.hid ((HK0.out.mono (fun _ _ x => x.elim)).trans hk.out.2)
  clear Sc0 Sf0 Sc1 Sf1 Sc2 Sf2 Sc3 Sf3 Sc4 Sf4 Sc5 Sf5 Xc0 Xf0 Xc1 Xf1 Xc2 Xf2 Xc3 Xf3 Xc4 Xf4 Xc5 Xf5
  clear hk HP1 HS0 HX0 HST0 HK0
  clear hWA hWB
  obtain ⟨Sc0, Sf0, Sc1, Sf1, Sc2, Sf2, Sc3, Sf3, Sc4, Sf4, Sc5, Sf5⟩ := cf6 HS2.out
  obtain ⟨Xc0, Xf0, Xc1, Xf1, Xc2, Xf2, Xc3, Xf3, Xc4, Xf4, Xc5, Xf5⟩ := cf6 HX3.out
  have hal := (MapKept.heap_alloc w1 (.cells #[.int .i64 1, .string ⟨#[]⟩, .string ⟨#[]⟩, .string ⟨#[]⟩, .string ⟨#[]⟩, .slice none 0 0] 49)).1
  have hkE : Keeps (fun _ => False) w1 (w1.alloc (.cells #[.int .i64 1, .string ⟨#[]⟩, .string ⟨#[]⟩, .string ⟨#[]⟩, .string ⟨#[]⟩, .slice none 0 0] 49)) := (Keeps.refl _ _).alloc _
  obtain ⟨YB, hYB⟩ : ∃ q, w1.heap.size = q := ⟨_, rfl⟩
  rw [hYB] at hal
  have HS8 := Lib.hid (((hkE).block _ (lt_of_heap HS2.out) (fun x => x)).trans HS2.out)
  have HX9 := Lib.hid (((hkE).block _ (lt_of_heap HX3.out) (fun x => x)).trans HX3.out)
  have HN7 : Hid ((W.heap.size ≠ b ∧ WA.heap.size ≠ b ∧ WA.heap.size ≠ W.heap.size ∧ W.heap.size ≤ WA.heap.size ∧ b < W.heap.size) ∧ W.heap.size ≤ YB ∧ W.heap.size < YB ∧ WA.heap.size < YB ∧ b < YB) := ⟨HN.out, by
   have hz := HK5.out.size
   have l0 := lt_of_heap HS2.out
   have l1 := lt_of_heap HX3.out
   have ls := lt_of_heap HS4.out.1
   refine ⟨?_, ?_, ?_, ?_⟩ <;> omega⟩
  have HS10 := Lib.hid (HS4.out.keeps hkE (fun x => x))
  have HK11 := Lib.hid (HK5.out.trans (hkE.mono (fun _ _ x => x.elim)))
  have HY12 := Lib.hid hal
  clear hkE hal HS2 HX3 HN HS4 HK5
  go_upto_region 2 with fail
  clear Sc0 Sf0 Sc1 Sf1 Sc2 Sf2 Sc3 Sf3 Sc4 Sf4 Sc5 Sf5 Xc0 Xf0 Xc1 Xf1 Xc2 Xf2 Xc3 Xf3 Xc4 Xf4 Xc5 Xf5
  clear hYB
  generalize (w1.alloc (.cells #[.int .i64 1, .string ⟨#[]⟩, .string ⟨#[]⟩, .string ⟨#[]⟩, .string ⟨#[]⟩, .slice none 0 0] 49)) = w6 at *
  obtain ⟨Sc0, Sf0, Sc1, Sf1, Sc2, Sf2, Sc3, Sf3, Sc4, Sf4, Sc5, Sf5⟩ := cf6 HS8.out
  obtain ⟨Xc0, Xf0, Xc1, Xf1, Xc2, Xf2, Xc3, Xf3, Xc4, Xf4, Xc5, Xf5⟩ := cf6 HX9.out
  obtain ⟨Yc0, Yf0, Yc1, Yf1, Yc2, Yf2, Yc3, Yf3, Yc4, Yf4, Yc5, Yf5⟩ := cf6 HY12.out
  go_wp2_with fail
  refine (HP2.out _ HS10.out).mono ?_
  rintro e w13 ⟨rfl, hk⟩
  have HS14 := Lib.hid (((hk.out.2).block _ (lt_of_heap HS8.out) (by have := HN7.out; show ¬ _ = _; omega)).trans HS8.out)
  have HX15 := Lib.hid (((hk.out.2).block _ (lt_of_heap HX9.out) (by have := HN7.out; show ¬ _ = _; omega)).trans HX9.out)
  have HY16 := Lib.hid (((hk.out.2).block _ (lt_of_heap HY12.out) (by have := HN7.out; show ¬ _ = _; omega)).trans HY12.out)
  have HS17 := Lib.hid (hk.out.1)
  have HK18 := Lib.hid (HK11.out.trans hk.out.2)
  clear Sc0 Sf0 Sc1 Sf1 Sc2 Sf2 Sc3 Sf3 Sc4 Sf4 Sc5 Sf5 Xc0 Xf0 Xc1 Xf1 Xc2 Xf2 Xc3 Xf3 Xc4 Xf4 Xc5 Xf5 Yc0 Yf0 Yc1 Yf1 Yc2 Yf2 Yc3 Yf3 Yc4 Yf4 Yc5 Yf5
  clear hk HP2 HS8 HX9 HY12 HS10 HK11
  obtain ⟨Sc0, Sf0, Sc1, Sf1, Sc2, Sf2, Sc3, Sf3, Sc4, Sf4, Sc5, Sf5⟩ := cf6 HS14.out
  obtain ⟨Xc0, Xf0, Xc1, Xf1, Xc2, Xf2, Xc3, Xf3, Xc4, Xf4, Xc5, Xf5⟩ := cf6 HX15.out
  obtain ⟨Yc0, Yf0, Yc1, Yf1, Yc2, Yf2, Yc3, Yf3, Yc4, Yf4, Yc5, Yf5⟩ := cf6 HY16.out
  have hs0 : (w13.setCell ⟨YB, 1, none⟩ (.string ⟨a1.toArray⟩)).heap[YB]? = some (.cells #[.int .i64 1, .string ⟨a1.toArray⟩, .string ⟨#[]⟩, .string ⟨#[]⟩, .string ⟨#[]⟩, .slice none 0 0] 49) := heap_set (HY16.out) 1 (.string ⟨a1.toArray⟩)
  have hs1 : ((w13.setCell ⟨YB, 1, none⟩ (.string ⟨a1.toArray⟩)).setCell ⟨YB, 2, none⟩ (.string ⟨a2.toArray⟩)).heap[YB]? = some (.cells #[.int .i64 1, .string ⟨a1.toArray⟩, .string ⟨a2.toArray⟩, .string ⟨#[]⟩, .string ⟨#[]⟩, .slice none 0 0] 49) := heap_set (hs0) 2 (.string ⟨a2.toArray⟩)
  have hkE : Keeps (fun q => q = YB) w13 ((w13.setCell ⟨YB, 1, none⟩ (.string ⟨a1.toArray⟩)).setCell ⟨YB, 2, none⟩ (.string ⟨a2.toArray⟩)) := (Keeps.setCell (S := fun q => q = YB) (Keeps.setCell (S := fun q => q = YB) (Keeps.refl _ _) (p := ⟨YB, 1, none⟩) (fun _ => rfl) _) (p := ⟨YB, 2, none⟩) (fun _ => rfl) _)
  have HY20 := Lib.hid hs1
  have HS21 := Lib.hid (((hkE).block _ (lt_of_heap HS14.out) (by have := HN7.out; show ¬ _ = _; omega)).trans HS14.out)
  have HX22 := Lib.hid (((hkE).block _ (lt_of_heap HX15.out) (by have := HN7.out; show ¬ _ = _; omega)).trans HX15.out)
  have HS23 := Lib.hid (HS17.out.keeps hkE (by have := HN7.out; show ¬ _ = _; omega))
  have HK24 := Lib.hid (HK18.out.trans_new hkE (fun q hq e => by have := HN7.out; omega))
  clear hkE hs0 hs1 HY16 HS14 HX15 HS17 HK18
  go_upto_region 3 with fail
  clear Sc0 Sf0 Sc1 Sf1 Sc2 Sf2 Sc3 Sf3 Sc4 Sf4 Sc5 Sf5 Xc0 Xf0 Xc1 Xf1 Xc2 Xf2 Xc3 Xf3 Xc4 Xf4 Xc5 Xf5 Yc0 Yf0 Yc1 Yf1 Yc2 Yf2 Yc3 Yf3 Yc4 Yf4 Yc5 Yf5
  generalize ((w13.setCell ⟨YB, 1, none⟩ (.string ⟨a1.toArray⟩)).setCell ⟨YB, 2, none⟩ (.string ⟨a2.toArray⟩)) = w19 at *
  obtain ⟨Sc0, Sf0, Sc1, Sf1, Sc2, Sf2, Sc3, Sf3, Sc4, Sf4, Sc5, Sf5⟩ := cf6 HS21.out
  obtain ⟨Xc0, Xf0, Xc1, Xf1, Xc2, Xf2, Xc3, Xf3, Xc4, Xf4, Xc5, Xf5⟩ := cf6 HX22.out
  obtain ⟨Yc0, Yf0, Yc1, Yf1, Yc2, Yf2, Yc3, Yf3, Yc4, Yf4, Yc5, Yf5⟩ := cf6 HY20.out
  go_upto_region 5 with fail
  go_wp2_with fail
  refine (HP3.out _ HS23.out).mono ?_
  rintro e w25 ⟨rfl, hk⟩
  have HS26 := Lib.hid (((hk.out.2).block _ (lt_of_heap HS21.out) (by have := HN7.out; show ¬ _ = _; omega)).trans HS21.out)
  have HX27 := Lib.hid (((hk.out.2).block _ (lt_of_heap HX22.out) (by have := HN7.out; show ¬ _ = _; omega)).trans HX22.out)
  have HY28 := Lib.hid (((hk.out.2).block _ (lt_of_heap HY20.out) (by have := HN7.out; show ¬ _ = _; omega)).trans HY20.out)
  have HS29 := Lib.hid (hk.out.1)
  have HK30 := Lib.hid (HK24.out.trans hk.out.2)
  clear Sc0 Sf0 Sc1 Sf1 Sc2 Sf2 Sc3 Sf3 Sc4 Sf4 Sc5 Sf5 Xc0 Xf0 Xc1 Xf1 Xc2 Xf2 Xc3 Xf3 Xc4 Xf4 Xc5 Xf5 Yc0 Yf0 Yc1 Yf1 Yc2 Yf2 Yc3 Yf3 Yc4 Yf4 Yc5 Yf5
  clear hk HP3 HS21 HX22 HY20 HS23 HK24
  obtain ⟨Sc0, Sf0, Sc1, Sf1, Sc2, Sf2, Sc3, Sf3, Sc4, Sf4, Sc5, Sf5⟩ := cf6 HS26.out
  obtain ⟨Xc0, Xf0, Xc1, Xf1, Xc2, Xf2, Xc3, Xf3, Xc4, Xf4, Xc5, Xf5⟩ := cf6 HX27.out
  obtain ⟨Yc0, Yf0, Yc1, Yf1, Yc2, Yf2, Yc3, Yf3, Yc4, Yf4, Yc5, Yf5⟩ := cf6 HY28.out
  go_upto_region 8 with fail
  clear Sc0 Sf0 Sc1 Sf1 Sc2 Sf2 Sc3 Sf3 Sc4 Sf4 Sc5 Sf5 Xc0 Xf0 Xc1 Xf1 Xc2 Xf2 Xc3 Xf3 Xc4 Xf4 Xc5 Xf5 Yc0 Yf0 Yc1 Yf1 Yc2 Yf2 Yc3 Yf3 Yc4 Yf4 Yc5 Yf5
  go_wp2_with fail
  go_loopg [7] m (fun g t wx => ∃ (i : Nat) (ao : Option Addr) (cap : Nat), i ≤ m ∧ g = m - i ∧ t = .int .i64 i ∧ Hid (StB wx 30 b (whoD s i x3).2 ∧ Keeps (fun q => q = b) W wx ∧ wx.heap[W.heap.size]? = some (.cells #[.int .i64 s.prins, .int .i64 s.links, .int .i64 s.stmts, .int .i64 s.grow, .int .i64 s.shrink, .int .i64 s.asks] 24) ∧ wx.heap[WA.heap.size]? = some (.cells #[.int .i64 0, .string ⟨#[]⟩, .string ⟨#[]⟩, .string ⟨#[]⟩, .string ⟨#[]⟩, .slice none 0 0] 49) ∧ wx.heap[YB]? = some (.cells #[.int .i64 1, .string ⟨a1.toArray⟩, .string ⟨a2.toArray⟩, .string ⟨#[]⟩, .string ⟨#[]⟩, .slice ao ((whoD s i x3).1.foldl putS []).length cap] 49) ∧ RowAt (YB + 1) wx (.slice ao ((whoD s i x3).1.foldl putS []).length cap) ((whoD s i x3).1.foldl putS [])))
  case atStart => exact ⟨0, none, 0, Nat.zero_le _, rfl, rfl, by rw [HFST.out.1, HFST.out.2]; exact ⟨HS29.out, HK30.out, HS26.out, HX27.out, HY28.out, RowAt.nil _ _⟩⟩
  case round =>
   obtain ⟨i, ao, cap, hi, rfl, rfl, HI⟩ := hrel
   clear HS29 HK30 HS26 HX27 HY28
   by_cases hlt : i < m
   ·have hiI : (i : Int) < (m : Int) := by omega
    have hwi : IntKind.i64.wrap ((i : Int) + 1) = (i : Int) + 1 := IntWalk.i64_in _ (by omega)
    have HS1 := Lib.hid HI.out.2.2.1
    have HX1 := Lib.hid HI.out.2.2.2.1
    have HY1 := Lib.hid HI.out.2.2.2.2.1
    have HR1 := Lib.hid HI.out.2.2.2.2.2
    have HT1 := Lib.hid HI.out.1
    have HK1 := Lib.hid HI.out.2.1
    obtain ⟨y, hy⟩ : ∃ q, (whoD s i x3).2 = q := ⟨_, rfl⟩
    obtain ⟨ol, hol⟩ : ∃ q, (whoD s i x3).1.foldl putS [] = q := ⟨_, rfl⟩
    have HNX : Hid ((whoD s (i + 1) x3).1.foldl putS [] = putS ol (prinD y s).1 ∧ (whoD s (i + 1) x3).2 = (belD y s.prins).2 ∧ ol.length ≤ i) := by
     refine ⟨?_, ?_, ?_⟩
     ·rw [(HSU.out i).1, puts_snoc, hol, hy]
     ·rw [(HSU.out i).2, hy, HPS.out]
     ·rw [← hol]; exact HLE.out i
    rw [hol] at HY1 HR1
    rw [hy] at HT1
    have HB1 : Hid (∀ W, StB W 30 b y → Calls Tryz.prog 9 #[.pointer (some ⟨b, 0, none⟩), .int .i64 s.prins] W (DrTo W 30 b (.int .i64 (belD y s.prins).1) (belD y s.prins).2)) := fun W h => HPB.out y W h
    have HL1 : Hid (∀ W : World, Calls Tryz.prog 26 #[.int .u8 65, .int .i64 (belD y s.prins).1] W fun e W' => e = .returned (.string ⟨(prinD y s).1.toArray⟩) ∧ Hid (Keeps (fun _ => False) W W')) := fun W => HPL.out y W
    obtain ⟨⟨kq, yq⟩, hbq⟩ : ∃ q, belD y s.prins = q := ⟨_, rfl⟩
    obtain ⟨u, hu⟩ : ∃ q, (prinD y s).1 = q := ⟨_, rfl⟩
    rw [hbq] at HB1 HL1 HNX
    rw [hu] at HL1 HNX
    simp only at HB1 HL1
    have HPP : Hid (∀ W : World, ReadsS W (.slice ao ol.length cap) ol → Calls Tryz.prog 32 #[.slice ao ol.length cap, .string ⟨u.toArray⟩] W fun e W' => ∃ v', e = .returned v' ∧ Hid (Keeps (fun _ => False) W W' ∧ ReadsS W' v' (putS ol u) ∧ Fresh W (.slice ao ol.length cap) v')) := fun W h => ref_put_at h (by have := HNX.out.2.2; omega) u
    clear HI hy hol hbq hu
    obtain ⟨Sc0, Sf0, Sc1, Sf1, Sc2, Sf2, Sc3, Sf3, Sc4, Sf4, Sc5, Sf5⟩ := cf6 HS1.out
    obtain ⟨Xc0, Xf0, Xc1, Xf1, Xc2, Xf2, Xc3, Xf3, Xc4, Xf4, Xc5, Xf5⟩ := cf6 HX1.out
    obtain ⟨Yc0, Yf0, Yc1, Yf1, Yc2, Yf2, Yc3, Yf3, Yc4, Yf4, Yc5, Yf5⟩ := cf6 HY1.out
    go_upto_region 11 with fail
    clear Sc0 Sf0 Sc1 Sf1 Sc2 Sf2 Sc3 Sf3 Sc4 Sf4 Sc5 Sf5 Xc0 Xf0 Xc1 Xf1 Xc2 Xf2 Xc3 Xf3 Xc4 Xf4 Xc5 Xf5 Yc0 Yf0 Yc1 Yf1 Yc2 Yf2 Yc3 Yf3 Yc4 Yf4 Yc5 Yf5
    have HMK31 : Hid (∀ w' : World, w'.heap[W.heap.size]? = some (.cells #[.int .i64 s.prins, .int .i64 s.links, .int .i64 s.stmts, .int .i64 s.grow, .int .i64 s.shrink, .int .i64 s.asks] 24) → w'.cell? ⟨W.heap.size, 0, none⟩ = some (.int .i64 s.prins) ∧ w'.cell? ⟨W.heap.size, 1, none⟩ = some (.int .i64 s.links) ∧ w'.cell? ⟨W.heap.size, 2, none⟩ = some (.int .i64 s.stmts) ∧ w'.cell? ⟨W.heap.size, 3, none⟩ = some (.int .i64 s.grow) ∧ w'.cell? ⟨W.heap.size, 4, none⟩ = some (.int .i64 s.shrink) ∧ w'.cell? ⟨W.heap.size, 5, none⟩ = some (.int .i64 s.asks) ∧ Hid (w'.heap[W.heap.size]? = some (.cells #[.int .i64 s.prins, .int .i64 s.links, .int .i64 s.stmts, .int .i64 s.grow, .int .i64 s.shrink, .int .i64 s.asks] 24))) := fun w' h0 => ⟨(by rw [cell_of_heap h0]; rfl), (by rw [cell_of_heap h0]; rfl), (by rw [cell_of_heap h0]; rfl), (by rw [cell_of_heap h0]; rfl), (by rw [cell_of_heap h0]; rfl), (by rw [cell_of_heap h0]; rfl), Lib.hid h0⟩
    have hkd : Keeps (fun _ => False) wr wr.drew := (Keeps.refl _ _).drew
    have HS32 := Lib.hid (((hkd).block _ (lt_of_heap HS1.out) (fun x => x)).trans HS1.out)
    have HX33 := Lib.hid (((hkd).block _ (lt_of_heap HX1.out) (fun x => x)).trans HX1.out)
    have HY34 := Lib.hid (((hkd).block _ (lt_of_heap HY1.out) (fun x => x)).trans HY1.out)
    have HE35 := Lib.hid (RowAt.keeps HR1.out (hkd) (fun _ _ _ x => x))
    have HS36 := Lib.hid (HT1.out.keeps hkd (fun x => x))
    have HK37 := Lib.hid (HK1.out.drew)
    have hS0 := HMK31.out wr.drew HS32.out
    clear hkd HS1 HX1 HY1 HR1 HT1 HK1
    refine wp_region_noPanic ?_
    refine wp_region_held_drew (S := (fun w' => w'.cell? ⟨W.heap.size, 0, none⟩ = some (.int .i64 s.prins) ∧ w'.cell? ⟨W.heap.size, 1, none⟩ = some (.int .i64 s.links) ∧ w'.cell? ⟨W.heap.size, 2, none⟩ = some (.int .i64 s.stmts) ∧ w'.cell? ⟨W.heap.size, 3, none⟩ = some (.int .i64 s.grow) ∧ w'.cell? ⟨W.heap.size, 4, none⟩ = some (.int .i64 s.shrink) ∧ w'.cell? ⟨W.heap.size, 5, none⟩ = some (.int .i64 s.asks) ∧ Hid (w'.heap[W.heap.size]? = some (.cells #[.int .i64 s.prins, .int .i64 s.links, .int .i64 s.stmts, .int .i64 s.grow, .int .i64 s.shrink, .int .i64 s.asks] 24)))) (by kernel_rfl) hS0 (fun hHeld => ?_)
    clear hS0
    generalize wr.drew = w38 at *
    refine wpAnyH_take_at (i := 0) (v := ?v0_39) rfl (by kernel_rfl) (by kernel_rfl) (by kernel_rfl) (fun _ _ _ h => h) (Or.inl ⟨by rfl, ?y0_39⟩) hHeld ?r0_39
    case y0_39 => (intro w hSw; (try dsimp only at hSw); go_simp; first | done | with_reducible rfl)
    (try simp only [Act.put, nm1, nm2, nm3])
    refine wpAnyH_take_at (i := 2) (v := ?v2_40) rfl (by kernel_rfl) (by kernel_rfl) (by kernel_rfl) (fun _ _ _ h => h) (Or.inl ⟨by rfl, ?y2_40⟩) hHeld ?r2_40
    case y2_40 => (intro w hSw; (try dsimp only at hSw); go_simp; first | done | with_reducible rfl)
    (try simp only [Act.put, nm1, nm2, nm3])
    refine wpAnyH_take_at (i := 3) (v := ?v3_41) rfl (by kernel_rfl) (by kernel_rfl) (by kernel_rfl) (fun _ _ _ h => h) (Or.inl ⟨by rfl, ?y3_41⟩) hHeld ?r3_41
    case y3_41 => (intro w hSw; (try dsimp only at hSw); go_simp; first | done | with_reducible rfl)
    (try simp only [Act.put, nm1, nm2, nm3])
    refine wpAnyH_take_at (i := 4) (v := ?v4_42) rfl (by kernel_rfl) (by kernel_rfl) (by kernel_rfl) (fun _ _ _ h => h) (Or.inl ⟨by rfl, ?y4_42⟩) hHeld ?r4_42
    case y4_42 => (intro w hSw; (try dsimp only at hSw); go_simp; first | done | with_reducible rfl)
    (try simp only [Act.put, nm1, nm2, nm3])
    refine wpAnyH_two (i := 1) (j := 5) (by kernel_rfl) rfl rfl (fun KK hK => ?p1_43) (fun KK hK => ?p5_43)
    case p1_43 =>
     obtain ⟨Yc0, Yf0, Yc1, Yf1, Yc2, Yf2, Yc3, Yf3, Yc4, Yf4, Yc5, Yf5⟩ := cf6 HY34.out
     go_simp
     refine hK.out _ _ ?s_44 (fun hHeld => ?_)
     case s_44 => exact HMK31.out _ HS32.out
     clear hK KK
     (try simp only [Act.put, nm1, nm2, nm3])
     clear Yc0 Yf0 Yc1 Yf1 Yc2 Yf2 Yc3 Yf3 Yc4 Yf4 Yc5 Yf5
     refine wpAnyH_one (i := 5) (by kernel_rfl) rfl (fun KK hK => ?_)
     go_simp
     refine (HB1.out _ HS36.out).mono ?_
     rintro e w45 ⟨rfl, hk⟩
     have HS46 := Lib.hid (((hk.out.2).block _ (lt_of_heap HS32.out) (by have := HN7.out; show ¬ _ = _; omega)).trans HS32.out)
     have HX47 := Lib.hid (((hk.out.2).block _ (lt_of_heap HX33.out) (by have := HN7.out; show ¬ _ = _; omega)).trans HX33.out)
     have HY48 := Lib.hid (((hk.out.2).block _ (lt_of_heap HY34.out) (by have := HN7.out; show ¬ _ = _; omega)).trans HY34.out)
     have HE49 := Lib.hid (RowAt.keeps HE35.out (hk.out.2) (fun q hq _ => by have := HN7.out; show ¬ _ = _; omega))
     have HS50 := Lib.hid (hk.out.1)
     have HK51 := Lib.hid (HK37.out.trans (hk.out.2))
     clear hk HB1 HS32 HX33 HY34 HE35 HS36 HK37
     go_simp
     refine hK.out _ _ ?s_52 (fun hHeld => ?_)
     case s_52 => exact HMK31.out _ HS46.out
     clear hK KK
     (try simp only [Act.put, nm1, nm2, nm3])
     refine wpAnyH_one (i := 6) (by kernel_rfl) rfl (fun KK hK => ?_)
     go_simp
     refine (HL1.out _).mono ?_
     rintro e w53 ⟨rfl, hk⟩
     have HS54 := Lib.hid (((hk.out).block _ (lt_of_heap HS46.out) (fun x => x)).trans HS46.out)
     have HX55 := Lib.hid (((hk.out).block _ (lt_of_heap HX47.out) (fun x => x)).trans HX47.out)
     have HY56 := Lib.hid (((hk.out).block _ (lt_of_heap HY48.out) (fun x => x)).trans HY48.out)
     have HE57 := Lib.hid (RowAt.keeps HE49.out (hk.out) (fun _ _ _ x => x))
     have HS58 := Lib.hid (HS50.out.keeps hk.out (fun x => x))
     have HK59 := Lib.hid (HK51.out.trans (hk.out.mono (fun _ _ x => x.elim)))
     clear hk HL1 HS46 HX47 HY48 HE49 HS50 HK51
     go_simp
     refine hK.out _ _ ?s_60 (fun hHeld => ?_)
     case s_60 => exact HMK31.out _ HS54.out
     clear hK KK
     (try simp only [Act.put, nm1, nm2, nm3])
     refine wpAnyH_one (i := 7) (by kernel_rfl) rfl (fun KK hK => ?_)
     go_simp
     refine (HPP.out _ HE57.out.1).mono ?_
     rintro e w61 ⟨pv, rfl, hk⟩
     obtain ⟨pao, pcap, hpv, hpv2⟩ := id hk.out.2.1
     clear hpv2
     subst hpv
     have HRP : Hid (RowAt (YB + 1) w61 (.slice pao (putS ol u).length pcap) (putS ol u)) := ⟨hk.out.2.1, fun k hk2 => by
      have q0 := lt_of_heap HY56.out
      have q1 := hk.out.1.size
      rcases hk.out.2.2 k hk2 with q | q
      ·have q2 := HE57.out.2 k q
       exact ⟨q2.1, by omega⟩
      ·exact ⟨by omega, own_of_reads hk.out.2.1 (put_pos ol u) k hk2⟩⟩
     have HS62 := Lib.hid (((hk.out.1).block _ (lt_of_heap HS54.out) (fun x => x)).trans HS54.out)
     have HX63 := Lib.hid (((hk.out.1).block _ (lt_of_heap HX55.out) (fun x => x)).trans HX55.out)
     have HY64 := Lib.hid (((hk.out.1).block _ (lt_of_heap HY56.out) (fun x => x)).trans HY56.out)
     have HS65 := Lib.hid (HS58.out.keeps hk.out.1 (fun x => x))
     have HK66 := Lib.hid (HK59.out.trans (hk.out.1.mono (fun _ _ x => x.elim)))
     clear hk HPP HS54 HX55 HY56 HE57 HS58 HK59
     go_simp
     refine hK.out _ _ ?s_67 (fun hHeld => ?_)
     case s_67 => exact HMK31.out _ HS62.out
     clear hK KK
     (try simp only [Act.put, nm1, nm2, nm3])
     refine wpAnyH_one (i := 8) (by kernel_rfl) rfl (fun KK hK => ?_)
     go_simp
     refine hK.out _ _ ?s_68 (fun hHeld => ?_)
     case s_68 => exact HMK31.out _ HS62.out
     clear hK KK
     (try simp only [Act.put, nm1, nm2, nm3])
     refine wpAnyH_one (i := 9) (by kernel_rfl) rfl (fun KK hK => ?_)
     obtain ⟨Yc0, Yf0, Yc1, Yf1, Yc2, Yf2, Yc3, Yf3, Yc4, Yf4, Yc5, Yf5⟩ := cf6 HY64.out
     have hs0 : (w61.setCell ⟨YB, 5, none⟩ (.slice pao (putS ol u).length pcap)).heap[YB]? = some (.cells #[.int .i64 1, .string ⟨a1.toArray⟩, .string ⟨a2.toArray⟩, .string ⟨#[]⟩, .string ⟨#[]⟩, .slice pao (putS ol u).length pcap] 49) := heap_set HY64.out 5 (.slice pao (putS ol u).length pcap)
     have hkE : Keeps (fun q => q = YB) w61 (w61.setCell ⟨YB, 5, none⟩ (.slice pao (putS ol u).length pcap)) := Keeps.setCell (S := fun q => q = YB) (Keeps.refl _ _) (p := ⟨YB, 5, none⟩) (fun _ => rfl) _
     have HY69 := Lib.hid hs0
     have HS70 := Lib.hid (((hkE).block _ (lt_of_heap HS62.out) (by have := HN7.out; show ¬ _ = _; omega)).trans HS62.out)
     have HX71 := Lib.hid (((hkE).block _ (lt_of_heap HX63.out) (by have := HN7.out; show ¬ _ = _; omega)).trans HX63.out)
     have HE72 := Lib.hid (RowAt.keeps HRP.out (hkE) (fun q hq _ => by have := HN7.out; show ¬ _ = _; omega))
     have HS73 := Lib.hid (HS65.out.keeps hkE (by have := HN7.out; show ¬ _ = _; omega))
     have HK74 := Lib.hid (HK66.out.trans_new hkE (fun q hq e => by have := HN7.out; omega))
     go_simp
     refine hK.out _ _ ?s_75 (fun hHeld => ?_)
     case s_75 => exact HMK31.out _ HS70.out
     clear hK KK
     (try simp only [Act.put, nm1, nm2, nm3])
     clear hkE hs0  HY64 HS62 HX63 HRP HS65 HK66
     clear Yc0 Yf0 Yc1 Yf1 Yc2 Yf2 Yc3 Yf3 Yc4 Yf4 Yc5 Yf5
     generalize (w61.setCell ⟨YB, 5, none⟩ (.slice pao (putS ol u).length pcap)) = w76 at *
     refine wpAnyH_done (by kernel_rfl) ?_ _
     refine NoPanic.normal ?_
     clear hHeld HMK31
     have HN2 : Hid (StB w76 30 b (whoD s (i + 1) x3).2 ∧ Keeps (fun q => q = b) W w76 ∧ w76.heap[W.heap.size]? = some (.cells #[.int .i64 s.prins, .int .i64 s.links, .int .i64 s.stmts, .int .i64 s.grow, .int .i64 s.shrink, .int .i64 s.asks] 24) ∧ w76.heap[WA.heap.size]? = some (.cells #[.int .i64 0, .string ⟨#[]⟩, .string ⟨#[]⟩, .string ⟨#[]⟩, .string ⟨#[]⟩, .slice none 0 0] 49) ∧ w76.heap[YB]? = some (.cells #[.int .i64 1, .string ⟨a1.toArray⟩, .string ⟨a2.toArray⟩, .string ⟨#[]⟩, .string ⟨#[]⟩, .slice pao ((whoD s (i + 1) x3).1.foldl putS []).length pcap] 49) ∧ RowAt (YB + 1) w76 (.slice pao ((whoD s (i + 1) x3).1.foldl putS []).length pcap) ((whoD s (i + 1) x3).1.foldl putS [])) := by rw [HNX.out.1, HNX.out.2.1]; exact ⟨HS73.out, HK74.out, HS70.out, HX71.out, HY69.out, HE72.out⟩
     clear HS73 HK74 HS70 HX71 HY69 HE72
     go_wp2_with fail
     go_roundg (m - (i + 1))
     case measure => omega
     case rel => exact ⟨i + 1, pao, pcap, by omega, rfl, by go_num, HN2⟩
    case p5_43 =>
     go_simp
     refine (HB1.out _ HS36.out).mono ?_
     rintro e w77 ⟨rfl, hk⟩
     have HS78 := Lib.hid (((hk.out.2).block _ (lt_of_heap HS32.out) (by have := HN7.out; show ¬ _ = _; omega)).trans HS32.out)
     have HX79 := Lib.hid (((hk.out.2).block _ (lt_of_heap HX33.out) (by have := HN7.out; show ¬ _ = _; omega)).trans HX33.out)
     have HY80 := Lib.hid (((hk.out.2).block _ (lt_of_heap HY34.out) (by have := HN7.out; show ¬ _ = _; omega)).trans HY34.out)
     have HE81 := Lib.hid (RowAt.keeps HE35.out (hk.out.2) (fun q hq _ => by have := HN7.out; show ¬ _ = _; omega))
     have HS82 := Lib.hid (hk.out.1)
     have HK83 := Lib.hid (HK37.out.trans (hk.out.2))
     clear hk HB1 HS32 HX33 HY34 HE35 HS36 HK37
     go_simp
     refine hK.out _ _ ?s_84 (fun hHeld => ?_)
     case s_84 => exact HMK31.out _ HS78.out
     clear hK KK
     (try simp only [Act.put, nm1, nm2, nm3])
     refine wpAnyH_two (i := 1) (j := 6) (by kernel_rfl) rfl rfl (fun KK hK => ?p1_85) (fun KK hK => ?p6_85)
     case p1_85 =>
      obtain ⟨Yc0, Yf0, Yc1, Yf1, Yc2, Yf2, Yc3, Yf3, Yc4, Yf4, Yc5, Yf5⟩ := cf6 HY80.out
      go_simp
      refine hK.out _ _ ?s_86 (fun hHeld => ?_)
      case s_86 => exact HMK31.out _ HS78.out
      clear hK KK
      (try simp only [Act.put, nm1, nm2, nm3])
      clear Yc0 Yf0 Yc1 Yf1 Yc2 Yf2 Yc3 Yf3 Yc4 Yf4 Yc5 Yf5
      refine wpAnyH_one (i := 6) (by kernel_rfl) rfl (fun KK hK => ?_)
      go_simp
      refine (HL1.out _).mono ?_
      rintro e w87 ⟨rfl, hk⟩
      have HS88 := Lib.hid (((hk.out).block _ (lt_of_heap HS78.out) (fun x => x)).trans HS78.out)
      have HX89 := Lib.hid (((hk.out).block _ (lt_of_heap HX79.out) (fun x => x)).trans HX79.out)
      have HY90 := Lib.hid (((hk.out).block _ (lt_of_heap HY80.out) (fun x => x)).trans HY80.out)
      have HE91 := Lib.hid (RowAt.keeps HE81.out (hk.out) (fun _ _ _ x => x))
      have HS92 := Lib.hid (HS82.out.keeps hk.out (fun x => x))
      have HK93 := Lib.hid (HK83.out.trans (hk.out.mono (fun _ _ x => x.elim)))
      clear hk HL1 HS78 HX79 HY80 HE81 HS82 HK83
      go_simp
      refine hK.out _ _ ?s_94 (fun hHeld => ?_)
      case s_94 => exact HMK31.out _ HS88.out
      clear hK KK
      (try simp only [Act.put, nm1, nm2, nm3])
      refine wpAnyH_one (i := 7) (by kernel_rfl) rfl (fun KK hK => ?_)
      go_simp
      refine (HPP.out _ HE91.out.1).mono ?_
      rintro e w95 ⟨pv, rfl, hk⟩
      obtain ⟨pao, pcap, hpv, hpv2⟩ := id hk.out.2.1
      clear hpv2
      subst hpv
      have HRP : Hid (RowAt (YB + 1) w95 (.slice pao (putS ol u).length pcap) (putS ol u)) := ⟨hk.out.2.1, fun k hk2 => by
       have q0 := lt_of_heap HY90.out
       have q1 := hk.out.1.size
       rcases hk.out.2.2 k hk2 with q | q
       ·have q2 := HE91.out.2 k q
        exact ⟨q2.1, by omega⟩
       ·exact ⟨by omega, own_of_reads hk.out.2.1 (put_pos ol u) k hk2⟩⟩
      have HS96 := Lib.hid (((hk.out.1).block _ (lt_of_heap HS88.out) (fun x => x)).trans HS88.out)
      have HX97 := Lib.hid (((hk.out.1).block _ (lt_of_heap HX89.out) (fun x => x)).trans HX89.out)
      have HY98 := Lib.hid (((hk.out.1).block _ (lt_of_heap HY90.out) (fun x => x)).trans HY90.out)
      have HS99 := Lib.hid (HS92.out.keeps hk.out.1 (fun x => x))
      have HK100 := Lib.hid (HK93.out.trans (hk.out.1.mono (fun _ _ x => x.elim)))
      clear hk HPP HS88 HX89 HY90 HE91 HS92 HK93
      go_simp
      refine hK.out _ _ ?s_101 (fun hHeld => ?_)
      case s_101 => exact HMK31.out _ HS96.out
      clear hK KK
      (try simp only [Act.put, nm1, nm2, nm3])
      refine wpAnyH_one (i := 8) (by kernel_rfl) rfl (fun KK hK => ?_)
      go_simp
      refine hK.out _ _ ?s_102 (fun hHeld => ?_)
      case s_102 => exact HMK31.out _ HS96.out
      clear hK KK
      (try simp only [Act.put, nm1, nm2, nm3])
      refine wpAnyH_one (i := 9) (by kernel_rfl) rfl (fun KK hK => ?_)
      obtain ⟨Yc0, Yf0, Yc1, Yf1, Yc2, Yf2, Yc3, Yf3, Yc4, Yf4, Yc5, Yf5⟩ := cf6 HY98.out
      have hs0 : (w95.setCell ⟨YB, 5, none⟩ (.slice pao (putS ol u).length pcap)).heap[YB]? = some (.cells #[.int .i64 1, .string ⟨a1.toArray⟩, .string ⟨a2.toArray⟩, .string ⟨#[]⟩, .string ⟨#[]⟩, .slice pao (putS ol u).length pcap] 49) := heap_set HY98.out 5 (.slice pao (putS ol u).length pcap)
      have hkE : Keeps (fun q => q = YB) w95 (w95.setCell ⟨YB, 5, none⟩ (.slice pao (putS ol u).length pcap)) := Keeps.setCell (S := fun q => q = YB) (Keeps.refl _ _) (p := ⟨YB, 5, none⟩) (fun _ => rfl) _
      have HY103 := Lib.hid hs0
      have HS104 := Lib.hid (((hkE).block _ (lt_of_heap HS96.out) (by have := HN7.out; show ¬ _ = _; omega)).trans HS96.out)
      have HX105 := Lib.hid (((hkE).block _ (lt_of_heap HX97.out) (by have := HN7.out; show ¬ _ = _; omega)).trans HX97.out)
      have HE106 := Lib.hid (RowAt.keeps HRP.out (hkE) (fun q hq _ => by have := HN7.out; show ¬ _ = _; omega))
      have HS107 := Lib.hid (HS99.out.keeps hkE (by have := HN7.out; show ¬ _ = _; omega))
      have HK108 := Lib.hid (HK100.out.trans_new hkE (fun q hq e => by have := HN7.out; omega))
      go_simp
      refine hK.out _ _ ?s_109 (fun hHeld => ?_)
      case s_109 => exact HMK31.out _ HS104.out
      clear hK KK
      (try simp only [Act.put, nm1, nm2, nm3])
      clear hkE hs0  HY98 HS96 HX97 HRP HS99 HK100
      clear Yc0 Yf0 Yc1 Yf1 Yc2 Yf2 Yc3 Yf3 Yc4 Yf4 Yc5 Yf5
      generalize (w95.setCell ⟨YB, 5, none⟩ (.slice pao (putS ol u).length pcap)) = w110 at *
      refine wpAnyH_done (by kernel_rfl) ?_ _
      refine NoPanic.normal ?_
      clear hHeld HMK31
      have HN2 : Hid (StB w110 30 b (whoD s (i + 1) x3).2 ∧ Keeps (fun q => q = b) W w110 ∧ w110.heap[W.heap.size]? = some (.cells #[.int .i64 s.prins, .int .i64 s.links, .int .i64 s.stmts, .int .i64 s.grow, .int .i64 s.shrink, .int .i64 s.asks] 24) ∧ w110.heap[WA.heap.size]? = some (.cells #[.int .i64 0, .string ⟨#[]⟩, .string ⟨#[]⟩, .string ⟨#[]⟩, .string ⟨#[]⟩, .slice none 0 0] 49) ∧ w110.heap[YB]? = some (.cells #[.int .i64 1, .string ⟨a1.toArray⟩, .string ⟨a2.toArray⟩, .string ⟨#[]⟩, .string ⟨#[]⟩, .slice pao ((whoD s (i + 1) x3).1.foldl putS []).length pcap] 49) ∧ RowAt (YB + 1) w110 (.slice pao ((whoD s (i + 1) x3).1.foldl putS []).length pcap) ((whoD s (i + 1) x3).1.foldl putS [])) := by rw [HNX.out.1, HNX.out.2.1]; exact ⟨HS107.out, HK108.out, HS104.out, HX105.out, HY103.out, HE106.out⟩
      clear HS107 HK108 HS104 HX105 HY103 HE106
      go_wp2_with fail
      go_roundg (m - (i + 1))
      case measure => omega
      case rel => exact ⟨i + 1, pao, pcap, by omega, rfl, by go_num, HN2⟩
     case p6_85 =>
      go_simp
      refine (HL1.out _).mono ?_
      rintro e w111 ⟨rfl, hk⟩
      have HS112 := Lib.hid (((hk.out).block _ (lt_of_heap HS78.out) (fun x => x)).trans HS78.out)
      have HX113 := Lib.hid (((hk.out).block _ (lt_of_heap HX79.out) (fun x => x)).trans HX79.out)
      have HY114 := Lib.hid (((hk.out).block _ (lt_of_heap HY80.out) (fun x => x)).trans HY80.out)
      have HE115 := Lib.hid (RowAt.keeps HE81.out (hk.out) (fun _ _ _ x => x))
      have HS116 := Lib.hid (HS82.out.keeps hk.out (fun x => x))
      have HK117 := Lib.hid (HK83.out.trans (hk.out.mono (fun _ _ x => x.elim)))
      clear hk HL1 HS78 HX79 HY80 HE81 HS82 HK83
      go_simp
      refine hK.out _ _ ?s_118 (fun hHeld => ?_)
      case s_118 => exact HMK31.out _ HS112.out
      clear hK KK
      (try simp only [Act.put, nm1, nm2, nm3])
      refine wpAnyH_one (i := 1) (by kernel_rfl) rfl (fun KK hK => ?_)
      obtain ⟨Yc0, Yf0, Yc1, Yf1, Yc2, Yf2, Yc3, Yf3, Yc4, Yf4, Yc5, Yf5⟩ := cf6 HY114.out
      go_simp
      refine hK.out _ _ ?s_119 (fun hHeld => ?_)
      case s_119 => exact HMK31.out _ HS112.out
      clear hK KK
      (try simp only [Act.put, nm1, nm2, nm3])
      clear Yc0 Yf0 Yc1 Yf1 Yc2 Yf2 Yc3 Yf3 Yc4 Yf4 Yc5 Yf5
      refine wpAnyH_one (i := 7) (by kernel_rfl) rfl (fun KK hK => ?_)
      go_simp
      refine (HPP.out _ HE115.out.1).mono ?_
      rintro e w120 ⟨pv, rfl, hk⟩
      obtain ⟨pao, pcap, hpv, hpv2⟩ := id hk.out.2.1
      clear hpv2
      subst hpv
      have HRP : Hid (RowAt (YB + 1) w120 (.slice pao (putS ol u).length pcap) (putS ol u)) := ⟨hk.out.2.1, fun k hk2 => by
       have q0 := lt_of_heap HY114.out
       have q1 := hk.out.1.size
       rcases hk.out.2.2 k hk2 with q | q
       ·have q2 := HE115.out.2 k q
        exact ⟨q2.1, by omega⟩
       ·exact ⟨by omega, own_of_reads hk.out.2.1 (put_pos ol u) k hk2⟩⟩
      have HS121 := Lib.hid (((hk.out.1).block _ (lt_of_heap HS112.out) (fun x => x)).trans HS112.out)
      have HX122 := Lib.hid (((hk.out.1).block _ (lt_of_heap HX113.out) (fun x => x)).trans HX113.out)
      have HY123 := Lib.hid (((hk.out.1).block _ (lt_of_heap HY114.out) (fun x => x)).trans HY114.out)
      have HS124 := Lib.hid (HS116.out.keeps hk.out.1 (fun x => x))
      have HK125 := Lib.hid (HK117.out.trans (hk.out.1.mono (fun _ _ x => x.elim)))
      clear hk HPP HS112 HX113 HY114 HE115 HS116 HK117
      go_simp
      refine hK.out _ _ ?s_126 (fun hHeld => ?_)
      case s_126 => exact HMK31.out _ HS121.out
      clear hK KK
      (try simp only [Act.put, nm1, nm2, nm3])
      refine wpAnyH_one (i := 8) (by kernel_rfl) rfl (fun KK hK => ?_)
      go_simp
      refine hK.out _ _ ?s_127 (fun hHeld => ?_)
      case s_127 => exact HMK31.out _ HS121.out
      clear hK KK
      (try simp only [Act.put, nm1, nm2, nm3])
      refine wpAnyH_one (i := 9) (by kernel_rfl) rfl (fun KK hK => ?_)
      obtain ⟨Yc0, Yf0, Yc1, Yf1, Yc2, Yf2, Yc3, Yf3, Yc4, Yf4, Yc5, Yf5⟩ := cf6 HY123.out
      have hs0 : (w120.setCell ⟨YB, 5, none⟩ (.slice pao (putS ol u).length pcap)).heap[YB]? = some (.cells #[.int .i64 1, .string ⟨a1.toArray⟩, .string ⟨a2.toArray⟩, .string ⟨#[]⟩, .string ⟨#[]⟩, .slice pao (putS ol u).length pcap] 49) := heap_set HY123.out 5 (.slice pao (putS ol u).length pcap)
      have hkE : Keeps (fun q => q = YB) w120 (w120.setCell ⟨YB, 5, none⟩ (.slice pao (putS ol u).length pcap)) := Keeps.setCell (S := fun q => q = YB) (Keeps.refl _ _) (p := ⟨YB, 5, none⟩) (fun _ => rfl) _
      have HY128 := Lib.hid hs0
      have HS129 := Lib.hid (((hkE).block _ (lt_of_heap HS121.out) (by have := HN7.out; show ¬ _ = _; omega)).trans HS121.out)
      have HX130 := Lib.hid (((hkE).block _ (lt_of_heap HX122.out) (by have := HN7.out; show ¬ _ = _; omega)).trans HX122.out)
      have HE131 := Lib.hid (RowAt.keeps HRP.out (hkE) (fun q hq _ => by have := HN7.out; show ¬ _ = _; omega))
      have HS132 := Lib.hid (HS124.out.keeps hkE (by have := HN7.out; show ¬ _ = _; omega))
      have HK133 := Lib.hid (HK125.out.trans_new hkE (fun q hq e => by have := HN7.out; omega))
      go_simp
      refine hK.out _ _ ?s_134 (fun hHeld => ?_)
      case s_134 => exact HMK31.out _ HS129.out
      clear hK KK
      (try simp only [Act.put, nm1, nm2, nm3])
      clear hkE hs0  HY123 HS121 HX122 HRP HS124 HK125
      clear Yc0 Yf0 Yc1 Yf1 Yc2 Yf2 Yc3 Yf3 Yc4 Yf4 Yc5 Yf5
      generalize (w120.setCell ⟨YB, 5, none⟩ (.slice pao (putS ol u).length pcap)) = w135 at *
      refine wpAnyH_done (by kernel_rfl) ?_ _
      refine NoPanic.normal ?_
      clear hHeld HMK31
      have HN2 : Hid (StB w135 30 b (whoD s (i + 1) x3).2 ∧ Keeps (fun q => q = b) W w135 ∧ w135.heap[W.heap.size]? = some (.cells #[.int .i64 s.prins, .int .i64 s.links, .int .i64 s.stmts, .int .i64 s.grow, .int .i64 s.shrink, .int .i64 s.asks] 24) ∧ w135.heap[WA.heap.size]? = some (.cells #[.int .i64 0, .string ⟨#[]⟩, .string ⟨#[]⟩, .string ⟨#[]⟩, .string ⟨#[]⟩, .slice none 0 0] 49) ∧ w135.heap[YB]? = some (.cells #[.int .i64 1, .string ⟨a1.toArray⟩, .string ⟨a2.toArray⟩, .string ⟨#[]⟩, .string ⟨#[]⟩, .slice pao ((whoD s (i + 1) x3).1.foldl putS []).length pcap] 49) ∧ RowAt (YB + 1) w135 (.slice pao ((whoD s (i + 1) x3).1.foldl putS []).length pcap) ((whoD s (i + 1) x3).1.foldl putS [])) := by rw [HNX.out.1, HNX.out.2.1]; exact ⟨HS132.out, HK133.out, HS129.out, HX130.out, HY128.out, HE131.out⟩
      clear HS132 HK133 HS129 HX130 HY128 HE131
      go_wp2_with fail
      go_roundg (m - (i + 1))
      case measure => omega
      case rel => exact ⟨i + 1, pao, pcap, by omega, rfl, by go_num, HN2⟩
   ·obtain rfl : i = m := by omega
    have hiI : ¬ (i : Int) < (i : Int) := by omega
    have HS1 := Lib.hid HI.out.2.2.1
    have HX1 := Lib.hid HI.out.2.2.2.1
    have HY1 := Lib.hid HI.out.2.2.2.2.1
    have HR1 := Lib.hid HI.out.2.2.2.2.2
    have HT1 := Lib.hid HI.out.1
    have HK1 := Lib.hid HI.out.2.1
    rw [HFIN.out.1] at HY1 HR1
    rw [HFIN.out.2] at HT1
    clear HI HFIN HFST HSU HLE HPB HPL HPS
    obtain ⟨Sc0, Sf0, Sc1, Sf1, Sc2, Sf2, Sc3, Sf3, Sc4, Sf4, Sc5, Sf5⟩ := cf6 HS1.out
    obtain ⟨Xc0, Xf0, Xc1, Xf1, Xc2, Xf2, Xc3, Xf3, Xc4, Xf4, Xc5, Xf5⟩ := cf6 HX1.out
    obtain ⟨Yc0, Yf0, Yc1, Yf1, Yc2, Yf2, Yc3, Yf3, Yc4, Yf4, Yc5, Yf5⟩ := cf6 HY1.out
    obtain ⟨hs0, hkE⟩ := sx6 HX1.out (.int .i64 1) (.string ⟨a1.toArray⟩) (.string ⟨a2.toArray⟩) (.string ⟨#[]⟩) (.string ⟨#[]⟩) (.slice ao wl.length cap)
    have HX136 := Lib.hid hs0
    have HS137 := Lib.hid (((hkE).block _ (lt_of_heap HS1.out) (by have := HN7.out; show ¬ _ = _; omega)).trans HS1.out)
    have HY138 := Lib.hid (((hkE).block _ (lt_of_heap HY1.out) (by have := HN7.out; show ¬ _ = _; omega)).trans HY1.out)
    have HE139 := Lib.hid (RowAt.keeps HR1.out (hkE) (fun q hq _ => by have := HN7.out; show ¬ _ = _; omega))
    have HS140 := Lib.hid (HT1.out.keeps hkE (by have := HN7.out; show ¬ _ = _; omega))
    have HK141 := Lib.hid (HK1.out.trans_new hkE (fun q hq e => by have := HN7.out; omega))
    clear hkE hs0 HX1 HS1 HY1 HR1 HT1 HK1
    go_wp2_with fail
    clear Sc0 Sf0 Sc1 Sf1 Sc2 Sf2 Sc3 Sf3 Sc4 Sf4 Sc5 Sf5 Xc0 Xf0 Xc1 Xf1 Xc2 Xf2 Xc3 Xf3 Xc4 Xf4 Xc5 Xf5 Yc0 Yf0 Yc1 Yf1 Yc2 Yf2 Yc3 Yf3 Yc4 Yf4 Yc5 Yf5
    generalize ((((((wr.setCell ⟨WA.heap.size, 0, none⟩ (.int .i64 1)).setCell ⟨WA.heap.size, 1, none⟩ (.string ⟨a1.toArray⟩)).setCell ⟨WA.heap.size, 2, none⟩ (.string ⟨a2.toArray⟩)).setCell ⟨WA.heap.size, 3, none⟩ (.string ⟨#[]⟩)).setCell ⟨WA.heap.size, 4, none⟩ (.string ⟨#[]⟩)).setCell ⟨WA.heap.size, 5, none⟩ (.slice ao wl.length cap)) = WE at *
    obtain ⟨Xc0, Xf0, Xc1, Xf1, Xc2, Xf2, Xc3, Xf3, Xc4, Xf4, Xc5, Xf5⟩ := cf6 HX136.out
    refine bodyPost_ret (v := .agg #[.int .i64 1, .string ⟨a1.toArray⟩, .string ⟨a2.toArray⟩, .string ⟨#[]⟩, .string ⟨#[]⟩, .slice ao wl.length cap]) (by simp [results, Tryz.results15, go_sem, *]) rfl ?_
    exact ⟨.slice ao wl.length cap, rfl, HS140.out, HK141.out, ⟨HE139.out.1, fun k hk => ⟨by have := (HE139.out.2 k hk).1; have := HN7.out; omega, (HE139.out.2 k hk).2⟩⟩⟩
 ·skip
  obtain ⟨⟨n, x3⟩, e3⟩ : ∃ q, belD x2 2 = q := ⟨_, rfl⟩
  have hn := belD_range (x := x2) (n := 2) (by omega)
  rw [e3] at hn
  simp only at hn
  obtain ⟨m, hm⟩ : ∃ m : Nat, (m : Int) = 1 + n := ⟨(1 + n).toNat, by omega⟩
  have hmt : (1 + n).toNat = m := by omega
  have hm10 : m ≤ 1000 := by omega
  have HP3 : Hid (∀ W, StB W 30 b x2 → Calls Tryz.prog 9 #[.pointer (some ⟨b, 0, none⟩), .int .i64 2] W (DrTo W 30 b (.int .i64 n) x3)) := fun W h => by
   have q := rbelow_at (by omega) e3 W h
   exact q
  obtain ⟨wl, hwl⟩ : ∃ q, ((whoD s m x3).1).foldl putS [] = q := ⟨_, rfl⟩
  have hwl2 : sortO (· < ·) (whoD s m x3).1 = wl := by rw [sortO_tab, ← puts_tab]; exact hwl
  obtain ⟨x4, hx4⟩ : ∃ q, (whoD s m x3).2 = q := ⟨_, rfl⟩
  have HSU : Hid (∀ i, (whoD s (i + 1) x3).1 = (whoD s i x3).1 ++ [(prinD (whoD s i x3).2 s).1] ∧ (whoD s (i + 1) x3).2 = (prinD (whoD s i x3).2 s).2) := fun i => who_succ s i x3
  have HLE : Hid (∀ i, ((whoD s i x3).1.foldl putS []).length ≤ i) := fun i => by
   have q := puts_len (whoD s i x3).1 []
   rw [who_len s i x3] at q
   simpa using q
  have HFIN : Hid (((whoD s m x3).1).foldl putS [] = wl ∧ (whoD s m x3).2 = x4) := ⟨hwl, hx4⟩
  have HFST : Hid (((whoD s 0 x3).1).foldl putS [] = [] ∧ (whoD s 0 x3).2 = x3) := ⟨rfl, rfl⟩
  have hw : IntKind.i64.wrap (n + 1) = (m : Int) := by rw [hm, Int.add_comm 1 n]; exact IntWalk.i64_in _ (by omega)
  have HE : Hid (askD x s = ((2, (a1, a2), ([], []), wl), x4)) := by
   show _ = _
   unfold askD
   simp [e1, e2, e3, hmt, hwl2, hx4, noRol]
  rw [HE.out]
  clear HE e1 e2 e3 hmt hwl2 hx4 hf hfn hwl hm
  unfold ShpV encStr8 at *
  obtain ⟨Sc0, Sf0, Sc1, Sf1, Sc2, Sf2, Sc3, Sf3, Sc4, Sf4, Sc5, Sf5⟩ := cf6 HS0.out
  obtain ⟨Xc0, Xf0, Xc1, Xf1, Xc2, Xf2, Xc3, Xf3, Xc4, Xf4, Xc5, Xf5⟩ := cf6 HX0.out
  go_enter Tryz.func15, Tryz.ntmps15
  go_wp2_with fail
  refine (HP1.out _ HST0.out).mono ?_
  rintro e w142 ⟨rfl, hk⟩
  have HS143 := Lib.hid (((hk.out.2).block _ (lt_of_heap HS0.out) (by have := HN.out; show ¬ _ = _; omega)).trans HS0.out)
  have HX144 := Lib.hid (((hk.out.2).block _ (lt_of_heap HX0.out) (by have := HN.out; show ¬ _ = _; omega)).trans HX0.out)
  have HS145 := Lib.hid (hk.out.1)
  have HK146 := Lib.hid ((HK0.out.mono (fun _ _ x => x.elim)).trans hk.out.2)
  clear Sc0 Sf0 Sc1 Sf1 Sc2 Sf2 Sc3 Sf3 Sc4 Sf4 Sc5 Sf5 Xc0 Xf0 Xc1 Xf1 Xc2 Xf2 Xc3 Xf3 Xc4 Xf4 Xc5 Xf5
  clear hk HP1 HS0 HX0 HST0 HK0
  clear hWA hWB
  obtain ⟨Sc0, Sf0, Sc1, Sf1, Sc2, Sf2, Sc3, Sf3, Sc4, Sf4, Sc5, Sf5⟩ := cf6 HS143.out
  obtain ⟨Xc0, Xf0, Xc1, Xf1, Xc2, Xf2, Xc3, Xf3, Xc4, Xf4, Xc5, Xf5⟩ := cf6 HX144.out
  have hal := (MapKept.heap_alloc w142 (.cells #[.int .i64 2, .string ⟨#[]⟩, .string ⟨#[]⟩, .string ⟨#[]⟩, .string ⟨#[]⟩, .slice none 0 0] 49)).1
  have hkE : Keeps (fun _ => False) w142 (w142.alloc (.cells #[.int .i64 2, .string ⟨#[]⟩, .string ⟨#[]⟩, .string ⟨#[]⟩, .string ⟨#[]⟩, .slice none 0 0] 49)) := (Keeps.refl _ _).alloc _
  obtain ⟨YB, hYB⟩ : ∃ q, w142.heap.size = q := ⟨_, rfl⟩
  rw [hYB] at hal
  have HS149 := Lib.hid (((hkE).block _ (lt_of_heap HS143.out) (fun x => x)).trans HS143.out)
  have HX150 := Lib.hid (((hkE).block _ (lt_of_heap HX144.out) (fun x => x)).trans HX144.out)
  have HN148 : Hid ((W.heap.size ≠ b ∧ WA.heap.size ≠ b ∧ WA.heap.size ≠ W.heap.size ∧ W.heap.size ≤ WA.heap.size ∧ b < W.heap.size) ∧ W.heap.size ≤ YB ∧ W.heap.size < YB ∧ WA.heap.size < YB ∧ b < YB) := ⟨HN.out, by
   have hz := HK146.out.size
   have l0 := lt_of_heap HS143.out
   have l1 := lt_of_heap HX144.out
   have ls := lt_of_heap HS145.out.1
   refine ⟨?_, ?_, ?_, ?_⟩ <;> omega⟩
  have HS151 := Lib.hid (HS145.out.keeps hkE (fun x => x))
  have HK152 := Lib.hid (HK146.out.trans (hkE.mono (fun _ _ x => x.elim)))
  have HY153 := Lib.hid hal
  clear hkE hal HS143 HX144 HN HS145 HK146
  go_upto_region 2 with fail
  clear Sc0 Sf0 Sc1 Sf1 Sc2 Sf2 Sc3 Sf3 Sc4 Sf4 Sc5 Sf5 Xc0 Xf0 Xc1 Xf1 Xc2 Xf2 Xc3 Xf3 Xc4 Xf4 Xc5 Xf5
  clear hYB
  generalize (w142.alloc (.cells #[.int .i64 2, .string ⟨#[]⟩, .string ⟨#[]⟩, .string ⟨#[]⟩, .string ⟨#[]⟩, .slice none 0 0] 49)) = w147 at *
  obtain ⟨Sc0, Sf0, Sc1, Sf1, Sc2, Sf2, Sc3, Sf3, Sc4, Sf4, Sc5, Sf5⟩ := cf6 HS149.out
  obtain ⟨Xc0, Xf0, Xc1, Xf1, Xc2, Xf2, Xc3, Xf3, Xc4, Xf4, Xc5, Xf5⟩ := cf6 HX150.out
  obtain ⟨Yc0, Yf0, Yc1, Yf1, Yc2, Yf2, Yc3, Yf3, Yc4, Yf4, Yc5, Yf5⟩ := cf6 HY153.out
  go_wp2_with fail
  refine (HP2.out _ HS151.out).mono ?_
  rintro e w154 ⟨rfl, hk⟩
  have HS155 := Lib.hid (((hk.out.2).block _ (lt_of_heap HS149.out) (by have := HN148.out; show ¬ _ = _; omega)).trans HS149.out)
  have HX156 := Lib.hid (((hk.out.2).block _ (lt_of_heap HX150.out) (by have := HN148.out; show ¬ _ = _; omega)).trans HX150.out)
  have HY157 := Lib.hid (((hk.out.2).block _ (lt_of_heap HY153.out) (by have := HN148.out; show ¬ _ = _; omega)).trans HY153.out)
  have HS158 := Lib.hid (hk.out.1)
  have HK159 := Lib.hid (HK152.out.trans hk.out.2)
  clear Sc0 Sf0 Sc1 Sf1 Sc2 Sf2 Sc3 Sf3 Sc4 Sf4 Sc5 Sf5 Xc0 Xf0 Xc1 Xf1 Xc2 Xf2 Xc3 Xf3 Xc4 Xf4 Xc5 Xf5 Yc0 Yf0 Yc1 Yf1 Yc2 Yf2 Yc3 Yf3 Yc4 Yf4 Yc5 Yf5
  clear hk HP2 HS149 HX150 HY153 HS151 HK152
  obtain ⟨Sc0, Sf0, Sc1, Sf1, Sc2, Sf2, Sc3, Sf3, Sc4, Sf4, Sc5, Sf5⟩ := cf6 HS155.out
  obtain ⟨Xc0, Xf0, Xc1, Xf1, Xc2, Xf2, Xc3, Xf3, Xc4, Xf4, Xc5, Xf5⟩ := cf6 HX156.out
  obtain ⟨Yc0, Yf0, Yc1, Yf1, Yc2, Yf2, Yc3, Yf3, Yc4, Yf4, Yc5, Yf5⟩ := cf6 HY157.out
  have hs0 : (w154.setCell ⟨YB, 1, none⟩ (.string ⟨a1.toArray⟩)).heap[YB]? = some (.cells #[.int .i64 2, .string ⟨a1.toArray⟩, .string ⟨#[]⟩, .string ⟨#[]⟩, .string ⟨#[]⟩, .slice none 0 0] 49) := heap_set (HY157.out) 1 (.string ⟨a1.toArray⟩)
  have hs1 : ((w154.setCell ⟨YB, 1, none⟩ (.string ⟨a1.toArray⟩)).setCell ⟨YB, 2, none⟩ (.string ⟨a2.toArray⟩)).heap[YB]? = some (.cells #[.int .i64 2, .string ⟨a1.toArray⟩, .string ⟨a2.toArray⟩, .string ⟨#[]⟩, .string ⟨#[]⟩, .slice none 0 0] 49) := heap_set (hs0) 2 (.string ⟨a2.toArray⟩)
  have hkE : Keeps (fun q => q = YB) w154 ((w154.setCell ⟨YB, 1, none⟩ (.string ⟨a1.toArray⟩)).setCell ⟨YB, 2, none⟩ (.string ⟨a2.toArray⟩)) := (Keeps.setCell (S := fun q => q = YB) (Keeps.setCell (S := fun q => q = YB) (Keeps.refl _ _) (p := ⟨YB, 1, none⟩) (fun _ => rfl) _) (p := ⟨YB, 2, none⟩) (fun _ => rfl) _)
  have HY161 := Lib.hid hs1
  have HS162 := Lib.hid (((hkE).block _ (lt_of_heap HS155.out) (by have := HN148.out; show ¬ _ = _; omega)).trans HS155.out)
  have HX163 := Lib.hid (((hkE).block _ (lt_of_heap HX156.out) (by have := HN148.out; show ¬ _ = _; omega)).trans HX156.out)
  have HS164 := Lib.hid (HS158.out.keeps hkE (by have := HN148.out; show ¬ _ = _; omega))
  have HK165 := Lib.hid (HK159.out.trans_new hkE (fun q hq e => by have := HN148.out; omega))
  clear hkE hs0 hs1 HY157 HS155 HX156 HS158 HK159
  go_upto_region 3 with fail
  clear Sc0 Sf0 Sc1 Sf1 Sc2 Sf2 Sc3 Sf3 Sc4 Sf4 Sc5 Sf5 Xc0 Xf0 Xc1 Xf1 Xc2 Xf2 Xc3 Xf3 Xc4 Xf4 Xc5 Xf5 Yc0 Yf0 Yc1 Yf1 Yc2 Yf2 Yc3 Yf3 Yc4 Yf4 Yc5 Yf5
  generalize ((w154.setCell ⟨YB, 1, none⟩ (.string ⟨a1.toArray⟩)).setCell ⟨YB, 2, none⟩ (.string ⟨a2.toArray⟩)) = w160 at *
  obtain ⟨Sc0, Sf0, Sc1, Sf1, Sc2, Sf2, Sc3, Sf3, Sc4, Sf4, Sc5, Sf5⟩ := cf6 HS162.out
  obtain ⟨Xc0, Xf0, Xc1, Xf1, Xc2, Xf2, Xc3, Xf3, Xc4, Xf4, Xc5, Xf5⟩ := cf6 HX163.out
  obtain ⟨Yc0, Yf0, Yc1, Yf1, Yc2, Yf2, Yc3, Yf3, Yc4, Yf4, Yc5, Yf5⟩ := cf6 HY161.out
  go_upto_region 5 with fail
  go_wp2_with fail
  refine (HP3.out _ HS164.out).mono ?_
  rintro e w166 ⟨rfl, hk⟩
  have HS167 := Lib.hid (((hk.out.2).block _ (lt_of_heap HS162.out) (by have := HN148.out; show ¬ _ = _; omega)).trans HS162.out)
  have HX168 := Lib.hid (((hk.out.2).block _ (lt_of_heap HX163.out) (by have := HN148.out; show ¬ _ = _; omega)).trans HX163.out)
  have HY169 := Lib.hid (((hk.out.2).block _ (lt_of_heap HY161.out) (by have := HN148.out; show ¬ _ = _; omega)).trans HY161.out)
  have HS170 := Lib.hid (hk.out.1)
  have HK171 := Lib.hid (HK165.out.trans hk.out.2)
  clear Sc0 Sf0 Sc1 Sf1 Sc2 Sf2 Sc3 Sf3 Sc4 Sf4 Sc5 Sf5 Xc0 Xf0 Xc1 Xf1 Xc2 Xf2 Xc3 Xf3 Xc4 Xf4 Xc5 Xf5 Yc0 Yf0 Yc1 Yf1 Yc2 Yf2 Yc3 Yf3 Yc4 Yf4 Yc5 Yf5
  clear hk HP3 HS162 HX163 HY161 HS164 HK165
  obtain ⟨Sc0, Sf0, Sc1, Sf1, Sc2, Sf2, Sc3, Sf3, Sc4, Sf4, Sc5, Sf5⟩ := cf6 HS167.out
  obtain ⟨Xc0, Xf0, Xc1, Xf1, Xc2, Xf2, Xc3, Xf3, Xc4, Xf4, Xc5, Xf5⟩ := cf6 HX168.out
  obtain ⟨Yc0, Yf0, Yc1, Yf1, Yc2, Yf2, Yc3, Yf3, Yc4, Yf4, Yc5, Yf5⟩ := cf6 HY169.out
  go_upto_region 8 with fail
  clear Sc0 Sf0 Sc1 Sf1 Sc2 Sf2 Sc3 Sf3 Sc4 Sf4 Sc5 Sf5 Xc0 Xf0 Xc1 Xf1 Xc2 Xf2 Xc3 Xf3 Xc4 Xf4 Xc5 Xf5 Yc0 Yf0 Yc1 Yf1 Yc2 Yf2 Yc3 Yf3 Yc4 Yf4 Yc5 Yf5
  go_wp2_with fail
  go_loopg [7] m (fun g t wx => ∃ (i : Nat) (ao : Option Addr) (cap : Nat), i ≤ m ∧ g = m - i ∧ t = .int .i64 i ∧ Hid (StB wx 30 b (whoD s i x3).2 ∧ Keeps (fun q => q = b) W wx ∧ wx.heap[W.heap.size]? = some (.cells #[.int .i64 s.prins, .int .i64 s.links, .int .i64 s.stmts, .int .i64 s.grow, .int .i64 s.shrink, .int .i64 s.asks] 24) ∧ wx.heap[WA.heap.size]? = some (.cells #[.int .i64 0, .string ⟨#[]⟩, .string ⟨#[]⟩, .string ⟨#[]⟩, .string ⟨#[]⟩, .slice none 0 0] 49) ∧ wx.heap[YB]? = some (.cells #[.int .i64 2, .string ⟨a1.toArray⟩, .string ⟨a2.toArray⟩, .string ⟨#[]⟩, .string ⟨#[]⟩, .slice ao ((whoD s i x3).1.foldl putS []).length cap] 49) ∧ RowAt (YB + 1) wx (.slice ao ((whoD s i x3).1.foldl putS []).length cap) ((whoD s i x3).1.foldl putS [])))
  case atStart => exact ⟨0, none, 0, Nat.zero_le _, rfl, rfl, by rw [HFST.out.1, HFST.out.2]; exact ⟨HS170.out, HK171.out, HS167.out, HX168.out, HY169.out, RowAt.nil _ _⟩⟩
  case round =>
   obtain ⟨i, ao, cap, hi, rfl, rfl, HI⟩ := hrel
   clear HS170 HK171 HS167 HX168 HY169
   by_cases hlt : i < m
   ·have hiI : (i : Int) < (m : Int) := by omega
    have hwi : IntKind.i64.wrap ((i : Int) + 1) = (i : Int) + 1 := IntWalk.i64_in _ (by omega)
    have HS1 := Lib.hid HI.out.2.2.1
    have HX1 := Lib.hid HI.out.2.2.2.1
    have HY1 := Lib.hid HI.out.2.2.2.2.1
    have HR1 := Lib.hid HI.out.2.2.2.2.2
    have HT1 := Lib.hid HI.out.1
    have HK1 := Lib.hid HI.out.2.1
    obtain ⟨y, hy⟩ : ∃ q, (whoD s i x3).2 = q := ⟨_, rfl⟩
    obtain ⟨ol, hol⟩ : ∃ q, (whoD s i x3).1.foldl putS [] = q := ⟨_, rfl⟩
    have HNX : Hid ((whoD s (i + 1) x3).1.foldl putS [] = putS ol (prinD y s).1 ∧ (whoD s (i + 1) x3).2 = (belD y s.prins).2 ∧ ol.length ≤ i) := by
     refine ⟨?_, ?_, ?_⟩
     ·rw [(HSU.out i).1, puts_snoc, hol, hy]
     ·rw [(HSU.out i).2, hy, HPS.out]
     ·rw [← hol]; exact HLE.out i
    rw [hol] at HY1 HR1
    rw [hy] at HT1
    have HB1 : Hid (∀ W, StB W 30 b y → Calls Tryz.prog 9 #[.pointer (some ⟨b, 0, none⟩), .int .i64 s.prins] W (DrTo W 30 b (.int .i64 (belD y s.prins).1) (belD y s.prins).2)) := fun W h => HPB.out y W h
    have HL1 : Hid (∀ W : World, Calls Tryz.prog 26 #[.int .u8 65, .int .i64 (belD y s.prins).1] W fun e W' => e = .returned (.string ⟨(prinD y s).1.toArray⟩) ∧ Hid (Keeps (fun _ => False) W W')) := fun W => HPL.out y W
    obtain ⟨⟨kq, yq⟩, hbq⟩ : ∃ q, belD y s.prins = q := ⟨_, rfl⟩
    obtain ⟨u, hu⟩ : ∃ q, (prinD y s).1 = q := ⟨_, rfl⟩
    rw [hbq] at HB1 HL1 HNX
    rw [hu] at HL1 HNX
    simp only at HB1 HL1
    have HPP : Hid (∀ W : World, ReadsS W (.slice ao ol.length cap) ol → Calls Tryz.prog 32 #[.slice ao ol.length cap, .string ⟨u.toArray⟩] W fun e W' => ∃ v', e = .returned v' ∧ Hid (Keeps (fun _ => False) W W' ∧ ReadsS W' v' (putS ol u) ∧ Fresh W (.slice ao ol.length cap) v')) := fun W h => ref_put_at h (by have := HNX.out.2.2; omega) u
    clear HI hy hol hbq hu
    obtain ⟨Sc0, Sf0, Sc1, Sf1, Sc2, Sf2, Sc3, Sf3, Sc4, Sf4, Sc5, Sf5⟩ := cf6 HS1.out
    obtain ⟨Xc0, Xf0, Xc1, Xf1, Xc2, Xf2, Xc3, Xf3, Xc4, Xf4, Xc5, Xf5⟩ := cf6 HX1.out
    obtain ⟨Yc0, Yf0, Yc1, Yf1, Yc2, Yf2, Yc3, Yf3, Yc4, Yf4, Yc5, Yf5⟩ := cf6 HY1.out
    go_upto_region 11 with fail
    clear Sc0 Sf0 Sc1 Sf1 Sc2 Sf2 Sc3 Sf3 Sc4 Sf4 Sc5 Sf5 Xc0 Xf0 Xc1 Xf1 Xc2 Xf2 Xc3 Xf3 Xc4 Xf4 Xc5 Xf5 Yc0 Yf0 Yc1 Yf1 Yc2 Yf2 Yc3 Yf3 Yc4 Yf4 Yc5 Yf5
    have HMK172 : Hid (∀ w' : World, w'.heap[W.heap.size]? = some (.cells #[.int .i64 s.prins, .int .i64 s.links, .int .i64 s.stmts, .int .i64 s.grow, .int .i64 s.shrink, .int .i64 s.asks] 24) → w'.cell? ⟨W.heap.size, 0, none⟩ = some (.int .i64 s.prins) ∧ w'.cell? ⟨W.heap.size, 1, none⟩ = some (.int .i64 s.links) ∧ w'.cell? ⟨W.heap.size, 2, none⟩ = some (.int .i64 s.stmts) ∧ w'.cell? ⟨W.heap.size, 3, none⟩ = some (.int .i64 s.grow) ∧ w'.cell? ⟨W.heap.size, 4, none⟩ = some (.int .i64 s.shrink) ∧ w'.cell? ⟨W.heap.size, 5, none⟩ = some (.int .i64 s.asks) ∧ Hid (w'.heap[W.heap.size]? = some (.cells #[.int .i64 s.prins, .int .i64 s.links, .int .i64 s.stmts, .int .i64 s.grow, .int .i64 s.shrink, .int .i64 s.asks] 24))) := fun w' h0 => ⟨(by rw [cell_of_heap h0]; rfl), (by rw [cell_of_heap h0]; rfl), (by rw [cell_of_heap h0]; rfl), (by rw [cell_of_heap h0]; rfl), (by rw [cell_of_heap h0]; rfl), (by rw [cell_of_heap h0]; rfl), Lib.hid h0⟩
    have hkd : Keeps (fun _ => False) wr wr.drew := (Keeps.refl _ _).drew
    have HS173 := Lib.hid (((hkd).block _ (lt_of_heap HS1.out) (fun x => x)).trans HS1.out)
    have HX174 := Lib.hid (((hkd).block _ (lt_of_heap HX1.out) (fun x => x)).trans HX1.out)
    have HY175 := Lib.hid (((hkd).block _ (lt_of_heap HY1.out) (fun x => x)).trans HY1.out)
    have HE176 := Lib.hid (RowAt.keeps HR1.out (hkd) (fun _ _ _ x => x))
    have HS177 := Lib.hid (HT1.out.keeps hkd (fun x => x))
    have HK178 := Lib.hid (HK1.out.drew)
    have hS0 := HMK172.out wr.drew HS173.out
    clear hkd HS1 HX1 HY1 HR1 HT1 HK1
    refine wp_region_noPanic ?_
    refine wp_region_held_drew (S := (fun w' => w'.cell? ⟨W.heap.size, 0, none⟩ = some (.int .i64 s.prins) ∧ w'.cell? ⟨W.heap.size, 1, none⟩ = some (.int .i64 s.links) ∧ w'.cell? ⟨W.heap.size, 2, none⟩ = some (.int .i64 s.stmts) ∧ w'.cell? ⟨W.heap.size, 3, none⟩ = some (.int .i64 s.grow) ∧ w'.cell? ⟨W.heap.size, 4, none⟩ = some (.int .i64 s.shrink) ∧ w'.cell? ⟨W.heap.size, 5, none⟩ = some (.int .i64 s.asks) ∧ Hid (w'.heap[W.heap.size]? = some (.cells #[.int .i64 s.prins, .int .i64 s.links, .int .i64 s.stmts, .int .i64 s.grow, .int .i64 s.shrink, .int .i64 s.asks] 24)))) (by kernel_rfl) hS0 (fun hHeld => ?_)
    clear hS0
    generalize wr.drew = w179 at *
    refine wpAnyH_take_at (i := 0) (v := ?v0_180) rfl (by kernel_rfl) (by kernel_rfl) (by kernel_rfl) (fun _ _ _ h => h) (Or.inl ⟨by rfl, ?y0_180⟩) hHeld ?r0_180
    case y0_180 => (intro w hSw; (try dsimp only at hSw); go_simp; first | done | with_reducible rfl)
    (try simp only [Act.put, nm1, nm2, nm3])
    refine wpAnyH_take_at (i := 2) (v := ?v2_181) rfl (by kernel_rfl) (by kernel_rfl) (by kernel_rfl) (fun _ _ _ h => h) (Or.inl ⟨by rfl, ?y2_181⟩) hHeld ?r2_181
    case y2_181 => (intro w hSw; (try dsimp only at hSw); go_simp; first | done | with_reducible rfl)
    (try simp only [Act.put, nm1, nm2, nm3])
    refine wpAnyH_take_at (i := 3) (v := ?v3_182) rfl (by kernel_rfl) (by kernel_rfl) (by kernel_rfl) (fun _ _ _ h => h) (Or.inl ⟨by rfl, ?y3_182⟩) hHeld ?r3_182
    case y3_182 => (intro w hSw; (try dsimp only at hSw); go_simp; first | done | with_reducible rfl)
    (try simp only [Act.put, nm1, nm2, nm3])
    refine wpAnyH_take_at (i := 4) (v := ?v4_183) rfl (by kernel_rfl) (by kernel_rfl) (by kernel_rfl) (fun _ _ _ h => h) (Or.inl ⟨by rfl, ?y4_183⟩) hHeld ?r4_183
    case y4_183 => (intro w hSw; (try dsimp only at hSw); go_simp; first | done | with_reducible rfl)
    (try simp only [Act.put, nm1, nm2, nm3])
    refine wpAnyH_two (i := 1) (j := 5) (by kernel_rfl) rfl rfl (fun KK hK => ?p1_184) (fun KK hK => ?p5_184)
    case p1_184 =>
     obtain ⟨Yc0, Yf0, Yc1, Yf1, Yc2, Yf2, Yc3, Yf3, Yc4, Yf4, Yc5, Yf5⟩ := cf6 HY175.out
     go_simp
     refine hK.out _ _ ?s_185 (fun hHeld => ?_)
     case s_185 => exact HMK172.out _ HS173.out
     clear hK KK
     (try simp only [Act.put, nm1, nm2, nm3])
     clear Yc0 Yf0 Yc1 Yf1 Yc2 Yf2 Yc3 Yf3 Yc4 Yf4 Yc5 Yf5
     refine wpAnyH_one (i := 5) (by kernel_rfl) rfl (fun KK hK => ?_)
     go_simp
     refine (HB1.out _ HS177.out).mono ?_
     rintro e w186 ⟨rfl, hk⟩
     have HS187 := Lib.hid (((hk.out.2).block _ (lt_of_heap HS173.out) (by have := HN148.out; show ¬ _ = _; omega)).trans HS173.out)
     have HX188 := Lib.hid (((hk.out.2).block _ (lt_of_heap HX174.out) (by have := HN148.out; show ¬ _ = _; omega)).trans HX174.out)
     have HY189 := Lib.hid (((hk.out.2).block _ (lt_of_heap HY175.out) (by have := HN148.out; show ¬ _ = _; omega)).trans HY175.out)
     have HE190 := Lib.hid (RowAt.keeps HE176.out (hk.out.2) (fun q hq _ => by have := HN148.out; show ¬ _ = _; omega))
     have HS191 := Lib.hid (hk.out.1)
     have HK192 := Lib.hid (HK178.out.trans (hk.out.2))
     clear hk HB1 HS173 HX174 HY175 HE176 HS177 HK178
     go_simp
     refine hK.out _ _ ?s_193 (fun hHeld => ?_)
     case s_193 => exact HMK172.out _ HS187.out
     clear hK KK
     (try simp only [Act.put, nm1, nm2, nm3])
     refine wpAnyH_one (i := 6) (by kernel_rfl) rfl (fun KK hK => ?_)
     go_simp
     refine (HL1.out _).mono ?_
     rintro e w194 ⟨rfl, hk⟩
     have HS195 := Lib.hid (((hk.out).block _ (lt_of_heap HS187.out) (fun x => x)).trans HS187.out)
     have HX196 := Lib.hid (((hk.out).block _ (lt_of_heap HX188.out) (fun x => x)).trans HX188.out)
     have HY197 := Lib.hid (((hk.out).block _ (lt_of_heap HY189.out) (fun x => x)).trans HY189.out)
     have HE198 := Lib.hid (RowAt.keeps HE190.out (hk.out) (fun _ _ _ x => x))
     have HS199 := Lib.hid (HS191.out.keeps hk.out (fun x => x))
     have HK200 := Lib.hid (HK192.out.trans (hk.out.mono (fun _ _ x => x.elim)))
     clear hk HL1 HS187 HX188 HY189 HE190 HS191 HK192
     go_simp
     refine hK.out _ _ ?s_201 (fun hHeld => ?_)
     case s_201 => exact HMK172.out _ HS195.out
     clear hK KK
     (try simp only [Act.put, nm1, nm2, nm3])
     refine wpAnyH_one (i := 7) (by kernel_rfl) rfl (fun KK hK => ?_)
     go_simp
     refine (HPP.out _ HE198.out.1).mono ?_
     rintro e w202 ⟨pv, rfl, hk⟩
     obtain ⟨pao, pcap, hpv, hpv2⟩ := id hk.out.2.1
     clear hpv2
     subst hpv
     have HRP : Hid (RowAt (YB + 1) w202 (.slice pao (putS ol u).length pcap) (putS ol u)) := ⟨hk.out.2.1, fun k hk2 => by
      have q0 := lt_of_heap HY197.out
      have q1 := hk.out.1.size
      rcases hk.out.2.2 k hk2 with q | q
      ·have q2 := HE198.out.2 k q
       exact ⟨q2.1, by omega⟩
      ·exact ⟨by omega, own_of_reads hk.out.2.1 (put_pos ol u) k hk2⟩⟩
     have HS203 := Lib.hid (((hk.out.1).block _ (lt_of_heap HS195.out) (fun x => x)).trans HS195.out)
     have HX204 := Lib.hid (((hk.out.1).block _ (lt_of_heap HX196.out) (fun x => x)).trans HX196.out)
     have HY205 := Lib.hid (((hk.out.1).block _ (lt_of_heap HY197.out) (fun x => x)).trans HY197.out)
     have HS206 := Lib.hid (HS199.out.keeps hk.out.1 (fun x => x))
     have HK207 := Lib.hid (HK200.out.trans (hk.out.1.mono (fun _ _ x => x.elim)))
     clear hk HPP HS195 HX196 HY197 HE198 HS199 HK200
     go_simp
     refine hK.out _ _ ?s_208 (fun hHeld => ?_)
     case s_208 => exact HMK172.out _ HS203.out
     clear hK KK
     (try simp only [Act.put, nm1, nm2, nm3])
     refine wpAnyH_one (i := 8) (by kernel_rfl) rfl (fun KK hK => ?_)
     go_simp
     refine hK.out _ _ ?s_209 (fun hHeld => ?_)
     case s_209 => exact HMK172.out _ HS203.out
     clear hK KK
     (try simp only [Act.put, nm1, nm2, nm3])
     refine wpAnyH_one (i := 9) (by kernel_rfl) rfl (fun KK hK => ?_)
     obtain ⟨Yc0, Yf0, Yc1, Yf1, Yc2, Yf2, Yc3, Yf3, Yc4, Yf4, Yc5, Yf5⟩ := cf6 HY205.out
     have hs0 : (w202.setCell ⟨YB, 5, none⟩ (.slice pao (putS ol u).length pcap)).heap[YB]? = some (.cells #[.int .i64 2, .string ⟨a1.toArray⟩, .string ⟨a2.toArray⟩, .string ⟨#[]⟩, .string ⟨#[]⟩, .slice pao (putS ol u).length pcap] 49) := heap_set HY205.out 5 (.slice pao (putS ol u).length pcap)
     have hkE : Keeps (fun q => q = YB) w202 (w202.setCell ⟨YB, 5, none⟩ (.slice pao (putS ol u).length pcap)) := Keeps.setCell (S := fun q => q = YB) (Keeps.refl _ _) (p := ⟨YB, 5, none⟩) (fun _ => rfl) _
     have HY210 := Lib.hid hs0
     have HS211 := Lib.hid (((hkE).block _ (lt_of_heap HS203.out) (by have := HN148.out; show ¬ _ = _; omega)).trans HS203.out)
     have HX212 := Lib.hid (((hkE).block _ (lt_of_heap HX204.out) (by have := HN148.out; show ¬ _ = _; omega)).trans HX204.out)
     have HE213 := Lib.hid (RowAt.keeps HRP.out (hkE) (fun q hq _ => by have := HN148.out; show ¬ _ = _; omega))
     have HS214 := Lib.hid (HS206.out.keeps hkE (by have := HN148.out; show ¬ _ = _; omega))
     have HK215 := Lib.hid (HK207.out.trans_new hkE (fun q hq e => by have := HN148.out; omega))
     go_simp
     refine hK.out _ _ ?s_216 (fun hHeld => ?_)
     case s_216 => exact HMK172.out _ HS211.out
     clear hK KK
     (try simp only [Act.put, nm1, nm2, nm3])
     clear hkE hs0  HY205 HS203 HX204 HRP HS206 HK207
     clear Yc0 Yf0 Yc1 Yf1 Yc2 Yf2 Yc3 Yf3 Yc4 Yf4 Yc5 Yf5
     generalize (w202.setCell ⟨YB, 5, none⟩ (.slice pao (putS ol u).length pcap)) = w217 at *
     refine wpAnyH_done (by kernel_rfl) ?_ _
     refine NoPanic.normal ?_
     clear hHeld HMK172
     have HN2 : Hid (StB w217 30 b (whoD s (i + 1) x3).2 ∧ Keeps (fun q => q = b) W w217 ∧ w217.heap[W.heap.size]? = some (.cells #[.int .i64 s.prins, .int .i64 s.links, .int .i64 s.stmts, .int .i64 s.grow, .int .i64 s.shrink, .int .i64 s.asks] 24) ∧ w217.heap[WA.heap.size]? = some (.cells #[.int .i64 0, .string ⟨#[]⟩, .string ⟨#[]⟩, .string ⟨#[]⟩, .string ⟨#[]⟩, .slice none 0 0] 49) ∧ w217.heap[YB]? = some (.cells #[.int .i64 2, .string ⟨a1.toArray⟩, .string ⟨a2.toArray⟩, .string ⟨#[]⟩, .string ⟨#[]⟩, .slice pao ((whoD s (i + 1) x3).1.foldl putS []).length pcap] 49) ∧ RowAt (YB + 1) w217 (.slice pao ((whoD s (i + 1) x3).1.foldl putS []).length pcap) ((whoD s (i + 1) x3).1.foldl putS [])) := by rw [HNX.out.1, HNX.out.2.1]; exact ⟨HS214.out, HK215.out, HS211.out, HX212.out, HY210.out, HE213.out⟩
     clear HS214 HK215 HS211 HX212 HY210 HE213
     go_wp2_with fail
     go_roundg (m - (i + 1))
     case measure => omega
     case rel => exact ⟨i + 1, pao, pcap, by omega, rfl, by go_num, HN2⟩
    case p5_184 =>
     go_simp
     refine (HB1.out _ HS177.out).mono ?_
     rintro e w218 ⟨rfl, hk⟩
     have HS219 := Lib.hid (((hk.out.2).block _ (lt_of_heap HS173.out) (by have := HN148.out; show ¬ _ = _; omega)).trans HS173.out)
     have HX220 := Lib.hid (((hk.out.2).block _ (lt_of_heap HX174.out) (by have := HN148.out; show ¬ _ = _; omega)).trans HX174.out)
     have HY221 := Lib.hid (((hk.out.2).block _ (lt_of_heap HY175.out) (by have := HN148.out; show ¬ _ = _; omega)).trans HY175.out)
     have HE222 := Lib.hid (RowAt.keeps HE176.out (hk.out.2) (fun q hq _ => by have := HN148.out; show ¬ _ = _; omega))
     have HS223 := Lib.hid (hk.out.1)
     have HK224 := Lib.hid (HK178.out.trans (hk.out.2))
     clear hk HB1 HS173 HX174 HY175 HE176 HS177 HK178
     go_simp
     refine hK.out _ _ ?s_225 (fun hHeld => ?_)
     case s_225 => exact HMK172.out _ HS219.out
     clear hK KK
     (try simp only [Act.put, nm1, nm2, nm3])
     refine wpAnyH_two (i := 1) (j := 6) (by kernel_rfl) rfl rfl (fun KK hK => ?p1_226) (fun KK hK => ?p6_226)
     case p1_226 =>
      obtain ⟨Yc0, Yf0, Yc1, Yf1, Yc2, Yf2, Yc3, Yf3, Yc4, Yf4, Yc5, Yf5⟩ := cf6 HY221.out
      go_simp
      refine hK.out _ _ ?s_227 (fun hHeld => ?_)
      case s_227 => exact HMK172.out _ HS219.out
      clear hK KK
      (try simp only [Act.put, nm1, nm2, nm3])
      clear Yc0 Yf0 Yc1 Yf1 Yc2 Yf2 Yc3 Yf3 Yc4 Yf4 Yc5 Yf5
      refine wpAnyH_one (i := 6) (by kernel_rfl) rfl (fun KK hK => ?_)
      go_simp
      refine (HL1.out _).mono ?_
      rintro e w228 ⟨rfl, hk⟩
      have HS229 := Lib.hid (((hk.out).block _ (lt_of_heap HS219.out) (fun x => x)).trans HS219.out)
      have HX230 := Lib.hid (((hk.out).block _ (lt_of_heap HX220.out) (fun x => x)).trans HX220.out)
      have HY231 := Lib.hid (((hk.out).block _ (lt_of_heap HY221.out) (fun x => x)).trans HY221.out)
      have HE232 := Lib.hid (RowAt.keeps HE222.out (hk.out) (fun _ _ _ x => x))
      have HS233 := Lib.hid (HS223.out.keeps hk.out (fun x => x))
      have HK234 := Lib.hid (HK224.out.trans (hk.out.mono (fun _ _ x => x.elim)))
      clear hk HL1 HS219 HX220 HY221 HE222 HS223 HK224
      go_simp
      refine hK.out _ _ ?s_235 (fun hHeld => ?_)
      case s_235 => exact HMK172.out _ HS229.out
      clear hK KK
      (try simp only [Act.put, nm1, nm2, nm3])
      refine wpAnyH_one (i := 7) (by kernel_rfl) rfl (fun KK hK => ?_)
      go_simp
      refine (HPP.out _ HE232.out.1).mono ?_
      rintro e w236 ⟨pv, rfl, hk⟩
      obtain ⟨pao, pcap, hpv, hpv2⟩ := id hk.out.2.1
      clear hpv2
      subst hpv
      have HRP : Hid (RowAt (YB + 1) w236 (.slice pao (putS ol u).length pcap) (putS ol u)) := ⟨hk.out.2.1, fun k hk2 => by
       have q0 := lt_of_heap HY231.out
       have q1 := hk.out.1.size
       rcases hk.out.2.2 k hk2 with q | q
       ·have q2 := HE232.out.2 k q
        exact ⟨q2.1, by omega⟩
       ·exact ⟨by omega, own_of_reads hk.out.2.1 (put_pos ol u) k hk2⟩⟩
      have HS237 := Lib.hid (((hk.out.1).block _ (lt_of_heap HS229.out) (fun x => x)).trans HS229.out)
      have HX238 := Lib.hid (((hk.out.1).block _ (lt_of_heap HX230.out) (fun x => x)).trans HX230.out)
      have HY239 := Lib.hid (((hk.out.1).block _ (lt_of_heap HY231.out) (fun x => x)).trans HY231.out)
      have HS240 := Lib.hid (HS233.out.keeps hk.out.1 (fun x => x))
      have HK241 := Lib.hid (HK234.out.trans (hk.out.1.mono (fun _ _ x => x.elim)))
      clear hk HPP HS229 HX230 HY231 HE232 HS233 HK234
      go_simp
      refine hK.out _ _ ?s_242 (fun hHeld => ?_)
      case s_242 => exact HMK172.out _ HS237.out
      clear hK KK
      (try simp only [Act.put, nm1, nm2, nm3])
      refine wpAnyH_one (i := 8) (by kernel_rfl) rfl (fun KK hK => ?_)
      go_simp
      refine hK.out _ _ ?s_243 (fun hHeld => ?_)
      case s_243 => exact HMK172.out _ HS237.out
      clear hK KK
      (try simp only [Act.put, nm1, nm2, nm3])
      refine wpAnyH_one (i := 9) (by kernel_rfl) rfl (fun KK hK => ?_)
      obtain ⟨Yc0, Yf0, Yc1, Yf1, Yc2, Yf2, Yc3, Yf3, Yc4, Yf4, Yc5, Yf5⟩ := cf6 HY239.out
      have hs0 : (w236.setCell ⟨YB, 5, none⟩ (.slice pao (putS ol u).length pcap)).heap[YB]? = some (.cells #[.int .i64 2, .string ⟨a1.toArray⟩, .string ⟨a2.toArray⟩, .string ⟨#[]⟩, .string ⟨#[]⟩, .slice pao (putS ol u).length pcap] 49) := heap_set HY239.out 5 (.slice pao (putS ol u).length pcap)
      have hkE : Keeps (fun q => q = YB) w236 (w236.setCell ⟨YB, 5, none⟩ (.slice pao (putS ol u).length pcap)) := Keeps.setCell (S := fun q => q = YB) (Keeps.refl _ _) (p := ⟨YB, 5, none⟩) (fun _ => rfl) _
      have HY244 := Lib.hid hs0
      have HS245 := Lib.hid (((hkE).block _ (lt_of_heap HS237.out) (by have := HN148.out; show ¬ _ = _; omega)).trans HS237.out)
      have HX246 := Lib.hid (((hkE).block _ (lt_of_heap HX238.out) (by have := HN148.out; show ¬ _ = _; omega)).trans HX238.out)
      have HE247 := Lib.hid (RowAt.keeps HRP.out (hkE) (fun q hq _ => by have := HN148.out; show ¬ _ = _; omega))
      have HS248 := Lib.hid (HS240.out.keeps hkE (by have := HN148.out; show ¬ _ = _; omega))
      have HK249 := Lib.hid (HK241.out.trans_new hkE (fun q hq e => by have := HN148.out; omega))
      go_simp
      refine hK.out _ _ ?s_250 (fun hHeld => ?_)
      case s_250 => exact HMK172.out _ HS245.out
      clear hK KK
      (try simp only [Act.put, nm1, nm2, nm3])
      clear hkE hs0  HY239 HS237 HX238 HRP HS240 HK241
      clear Yc0 Yf0 Yc1 Yf1 Yc2 Yf2 Yc3 Yf3 Yc4 Yf4 Yc5 Yf5
      generalize (w236.setCell ⟨YB, 5, none⟩ (.slice pao (putS ol u).length pcap)) = w251 at *
      refine wpAnyH_done (by kernel_rfl) ?_ _
      refine NoPanic.normal ?_
      clear hHeld HMK172
      have HN2 : Hid (StB w251 30 b (whoD s (i + 1) x3).2 ∧ Keeps (fun q => q = b) W w251 ∧ w251.heap[W.heap.size]? = some (.cells #[.int .i64 s.prins, .int .i64 s.links, .int .i64 s.stmts, .int .i64 s.grow, .int .i64 s.shrink, .int .i64 s.asks] 24) ∧ w251.heap[WA.heap.size]? = some (.cells #[.int .i64 0, .string ⟨#[]⟩, .string ⟨#[]⟩, .string ⟨#[]⟩, .string ⟨#[]⟩, .slice none 0 0] 49) ∧ w251.heap[YB]? = some (.cells #[.int .i64 2, .string ⟨a1.toArray⟩, .string ⟨a2.toArray⟩, .string ⟨#[]⟩, .string ⟨#[]⟩, .slice pao ((whoD s (i + 1) x3).1.foldl putS []).length pcap] 49) ∧ RowAt (YB + 1) w251 (.slice pao ((whoD s (i + 1) x3).1.foldl putS []).length pcap) ((whoD s (i + 1) x3).1.foldl putS [])) := by rw [HNX.out.1, HNX.out.2.1]; exact ⟨HS248.out, HK249.out, HS245.out, HX246.out, HY244.out, HE247.out⟩
      clear HS248 HK249 HS245 HX246 HY244 HE247
      go_wp2_with fail
      go_roundg (m - (i + 1))
      case measure => omega
      case rel => exact ⟨i + 1, pao, pcap, by omega, rfl, by go_num, HN2⟩
     case p6_226 =>
      go_simp
      refine (HL1.out _).mono ?_
      rintro e w252 ⟨rfl, hk⟩
      have HS253 := Lib.hid (((hk.out).block _ (lt_of_heap HS219.out) (fun x => x)).trans HS219.out)
      have HX254 := Lib.hid (((hk.out).block _ (lt_of_heap HX220.out) (fun x => x)).trans HX220.out)
      have HY255 := Lib.hid (((hk.out).block _ (lt_of_heap HY221.out) (fun x => x)).trans HY221.out)
      have HE256 := Lib.hid (RowAt.keeps HE222.out (hk.out) (fun _ _ _ x => x))
      have HS257 := Lib.hid (HS223.out.keeps hk.out (fun x => x))
      have HK258 := Lib.hid (HK224.out.trans (hk.out.mono (fun _ _ x => x.elim)))
      clear hk HL1 HS219 HX220 HY221 HE222 HS223 HK224
      go_simp
      refine hK.out _ _ ?s_259 (fun hHeld => ?_)
      case s_259 => exact HMK172.out _ HS253.out
      clear hK KK
      (try simp only [Act.put, nm1, nm2, nm3])
      refine wpAnyH_one (i := 1) (by kernel_rfl) rfl (fun KK hK => ?_)
      obtain ⟨Yc0, Yf0, Yc1, Yf1, Yc2, Yf2, Yc3, Yf3, Yc4, Yf4, Yc5, Yf5⟩ := cf6 HY255.out
      go_simp
      refine hK.out _ _ ?s_260 (fun hHeld => ?_)
      case s_260 => exact HMK172.out _ HS253.out
      clear hK KK
      (try simp only [Act.put, nm1, nm2, nm3])
      clear Yc0 Yf0 Yc1 Yf1 Yc2 Yf2 Yc3 Yf3 Yc4 Yf4 Yc5 Yf5
      refine wpAnyH_one (i := 7) (by kernel_rfl) rfl (fun KK hK => ?_)
      go_simp
      refine (HPP.out _ HE256.out.1).mono ?_
      rintro e w261 ⟨pv, rfl, hk⟩
      obtain ⟨pao, pcap, hpv, hpv2⟩ := id hk.out.2.1
      clear hpv2
      subst hpv
      have HRP : Hid (RowAt (YB + 1) w261 (.slice pao (putS ol u).length pcap) (putS ol u)) := ⟨hk.out.2.1, fun k hk2 => by
       have q0 := lt_of_heap HY255.out
       have q1 := hk.out.1.size
       rcases hk.out.2.2 k hk2 with q | q
       ·have q2 := HE256.out.2 k q
        exact ⟨q2.1, by omega⟩
       ·exact ⟨by omega, own_of_reads hk.out.2.1 (put_pos ol u) k hk2⟩⟩
      have HS262 := Lib.hid (((hk.out.1).block _ (lt_of_heap HS253.out) (fun x => x)).trans HS253.out)
      have HX263 := Lib.hid (((hk.out.1).block _ (lt_of_heap HX254.out) (fun x => x)).trans HX254.out)
      have HY264 := Lib.hid (((hk.out.1).block _ (lt_of_heap HY255.out) (fun x => x)).trans HY255.out)
      have HS265 := Lib.hid (HS257.out.keeps hk.out.1 (fun x => x))
      have HK266 := Lib.hid (HK258.out.trans (hk.out.1.mono (fun _ _ x => x.elim)))
      clear hk HPP HS253 HX254 HY255 HE256 HS257 HK258
      go_simp
      refine hK.out _ _ ?s_267 (fun hHeld => ?_)
      case s_267 => exact HMK172.out _ HS262.out
      clear hK KK
      (try simp only [Act.put, nm1, nm2, nm3])
      refine wpAnyH_one (i := 8) (by kernel_rfl) rfl (fun KK hK => ?_)
      go_simp
      refine hK.out _ _ ?s_268 (fun hHeld => ?_)
      case s_268 => exact HMK172.out _ HS262.out
      clear hK KK
      (try simp only [Act.put, nm1, nm2, nm3])
      refine wpAnyH_one (i := 9) (by kernel_rfl) rfl (fun KK hK => ?_)
      obtain ⟨Yc0, Yf0, Yc1, Yf1, Yc2, Yf2, Yc3, Yf3, Yc4, Yf4, Yc5, Yf5⟩ := cf6 HY264.out
      have hs0 : (w261.setCell ⟨YB, 5, none⟩ (.slice pao (putS ol u).length pcap)).heap[YB]? = some (.cells #[.int .i64 2, .string ⟨a1.toArray⟩, .string ⟨a2.toArray⟩, .string ⟨#[]⟩, .string ⟨#[]⟩, .slice pao (putS ol u).length pcap] 49) := heap_set HY264.out 5 (.slice pao (putS ol u).length pcap)
      have hkE : Keeps (fun q => q = YB) w261 (w261.setCell ⟨YB, 5, none⟩ (.slice pao (putS ol u).length pcap)) := Keeps.setCell (S := fun q => q = YB) (Keeps.refl _ _) (p := ⟨YB, 5, none⟩) (fun _ => rfl) _
      have HY269 := Lib.hid hs0
      have HS270 := Lib.hid (((hkE).block _ (lt_of_heap HS262.out) (by have := HN148.out; show ¬ _ = _; omega)).trans HS262.out)
      have HX271 := Lib.hid (((hkE).block _ (lt_of_heap HX263.out) (by have := HN148.out; show ¬ _ = _; omega)).trans HX263.out)
      have HE272 := Lib.hid (RowAt.keeps HRP.out (hkE) (fun q hq _ => by have := HN148.out; show ¬ _ = _; omega))
      have HS273 := Lib.hid (HS265.out.keeps hkE (by have := HN148.out; show ¬ _ = _; omega))
      have HK274 := Lib.hid (HK266.out.trans_new hkE (fun q hq e => by have := HN148.out; omega))
      go_simp
      refine hK.out _ _ ?s_275 (fun hHeld => ?_)
      case s_275 => exact HMK172.out _ HS270.out
      clear hK KK
      (try simp only [Act.put, nm1, nm2, nm3])
      clear hkE hs0  HY264 HS262 HX263 HRP HS265 HK266
      clear Yc0 Yf0 Yc1 Yf1 Yc2 Yf2 Yc3 Yf3 Yc4 Yf4 Yc5 Yf5
      generalize (w261.setCell ⟨YB, 5, none⟩ (.slice pao (putS ol u).length pcap)) = w276 at *
      refine wpAnyH_done (by kernel_rfl) ?_ _
      refine NoPanic.normal ?_
      clear hHeld HMK172
      have HN2 : Hid (StB w276 30 b (whoD s (i + 1) x3).2 ∧ Keeps (fun q => q = b) W w276 ∧ w276.heap[W.heap.size]? = some (.cells #[.int .i64 s.prins, .int .i64 s.links, .int .i64 s.stmts, .int .i64 s.grow, .int .i64 s.shrink, .int .i64 s.asks] 24) ∧ w276.heap[WA.heap.size]? = some (.cells #[.int .i64 0, .string ⟨#[]⟩, .string ⟨#[]⟩, .string ⟨#[]⟩, .string ⟨#[]⟩, .slice none 0 0] 49) ∧ w276.heap[YB]? = some (.cells #[.int .i64 2, .string ⟨a1.toArray⟩, .string ⟨a2.toArray⟩, .string ⟨#[]⟩, .string ⟨#[]⟩, .slice pao ((whoD s (i + 1) x3).1.foldl putS []).length pcap] 49) ∧ RowAt (YB + 1) w276 (.slice pao ((whoD s (i + 1) x3).1.foldl putS []).length pcap) ((whoD s (i + 1) x3).1.foldl putS [])) := by rw [HNX.out.1, HNX.out.2.1]; exact ⟨HS273.out, HK274.out, HS270.out, HX271.out, HY269.out, HE272.out⟩
      clear HS273 HK274 HS270 HX271 HY269 HE272
      go_wp2_with fail
      go_roundg (m - (i + 1))
      case measure => omega
      case rel => exact ⟨i + 1, pao, pcap, by omega, rfl, by go_num, HN2⟩
   ·obtain rfl : i = m := by omega
    have hiI : ¬ (i : Int) < (i : Int) := by omega
    have HS1 := Lib.hid HI.out.2.2.1
    have HX1 := Lib.hid HI.out.2.2.2.1
    have HY1 := Lib.hid HI.out.2.2.2.2.1
    have HR1 := Lib.hid HI.out.2.2.2.2.2
    have HT1 := Lib.hid HI.out.1
    have HK1 := Lib.hid HI.out.2.1
    rw [HFIN.out.1] at HY1 HR1
    rw [HFIN.out.2] at HT1
    clear HI HFIN HFST HSU HLE HPB HPL HPS
    obtain ⟨Sc0, Sf0, Sc1, Sf1, Sc2, Sf2, Sc3, Sf3, Sc4, Sf4, Sc5, Sf5⟩ := cf6 HS1.out
    obtain ⟨Xc0, Xf0, Xc1, Xf1, Xc2, Xf2, Xc3, Xf3, Xc4, Xf4, Xc5, Xf5⟩ := cf6 HX1.out
    obtain ⟨Yc0, Yf0, Yc1, Yf1, Yc2, Yf2, Yc3, Yf3, Yc4, Yf4, Yc5, Yf5⟩ := cf6 HY1.out
    obtain ⟨hs0, hkE⟩ := sx6 HX1.out (.int .i64 2) (.string ⟨a1.toArray⟩) (.string ⟨a2.toArray⟩) (.string ⟨#[]⟩) (.string ⟨#[]⟩) (.slice ao wl.length cap)
    have HX277 := Lib.hid hs0
    have HS278 := Lib.hid (((hkE).block _ (lt_of_heap HS1.out) (by have := HN148.out; show ¬ _ = _; omega)).trans HS1.out)
    have HY279 := Lib.hid (((hkE).block _ (lt_of_heap HY1.out) (by have := HN148.out; show ¬ _ = _; omega)).trans HY1.out)
    have HE280 := Lib.hid (RowAt.keeps HR1.out (hkE) (fun q hq _ => by have := HN148.out; show ¬ _ = _; omega))
    have HS281 := Lib.hid (HT1.out.keeps hkE (by have := HN148.out; show ¬ _ = _; omega))
    have HK282 := Lib.hid (HK1.out.trans_new hkE (fun q hq e => by have := HN148.out; omega))
    clear hkE hs0 HX1 HS1 HY1 HR1 HT1 HK1
    go_wp2_with fail
    clear Sc0 Sf0 Sc1 Sf1 Sc2 Sf2 Sc3 Sf3 Sc4 Sf4 Sc5 Sf5 Xc0 Xf0 Xc1 Xf1 Xc2 Xf2 Xc3 Xf3 Xc4 Xf4 Xc5 Xf5 Yc0 Yf0 Yc1 Yf1 Yc2 Yf2 Yc3 Yf3 Yc4 Yf4 Yc5 Yf5
    generalize ((((((wr.setCell ⟨WA.heap.size, 0, none⟩ (.int .i64 2)).setCell ⟨WA.heap.size, 1, none⟩ (.string ⟨a1.toArray⟩)).setCell ⟨WA.heap.size, 2, none⟩ (.string ⟨a2.toArray⟩)).setCell ⟨WA.heap.size, 3, none⟩ (.string ⟨#[]⟩)).setCell ⟨WA.heap.size, 4, none⟩ (.string ⟨#[]⟩)).setCell ⟨WA.heap.size, 5, none⟩ (.slice ao wl.length cap)) = WE at *
    obtain ⟨Xc0, Xf0, Xc1, Xf1, Xc2, Xf2, Xc3, Xf3, Xc4, Xf4, Xc5, Xf5⟩ := cf6 HX277.out
    refine bodyPost_ret (v := .agg #[.int .i64 2, .string ⟨a1.toArray⟩, .string ⟨a2.toArray⟩, .string ⟨#[]⟩, .string ⟨#[]⟩, .slice ao wl.length cap]) (by simp [results, Tryz.results15, go_sem, *]) rfl ?_
    exact ⟨.slice ao wl.length cap, rfl, HS281.out, HK282.out, ⟨HE280.out.1, fun k hk => ⟨by have := (HE280.out.2 k hk).1; have := HN148.out; omega, (HE280.out.2 k hk).2⟩⟩⟩
 ·skip
  obtain ⟨⟨n, x3⟩, e3⟩ : ∃ q, belD x2 3 = q := ⟨_, rfl⟩
  have hn := belD_range (x := x2) (n := 3) (by omega)
  rw [e3] at hn
  simp only at hn
  obtain ⟨m, hm⟩ : ∃ m : Nat, (m : Int) = n := ⟨(n).toNat, by omega⟩
  have hmt : (n).toNat = m := by omega
  have hm10 : m ≤ 1000 := by omega
  have HP3 : Hid (∀ W, StB W 30 b x2 → Calls Tryz.prog 9 #[.pointer (some ⟨b, 0, none⟩), .int .i64 3] W (DrTo W 30 b (.int .i64 (m : Int)) x3)) := fun W h => by
   have q := rbelow_at (by omega) e3 W h
   rw [hm]; exact q
  obtain ⟨wl, hwl⟩ : ∃ q, ((whoD s m x3).1).foldl putS [] = q := ⟨_, rfl⟩
  have hwl2 : sortO (· < ·) (whoD s m x3).1 = wl := by rw [sortO_tab, ← puts_tab]; exact hwl
  obtain ⟨x4, hx4⟩ : ∃ q, (whoD s m x3).2 = q := ⟨_, rfl⟩
  have HSU : Hid (∀ i, (whoD s (i + 1) x3).1 = (whoD s i x3).1 ++ [(prinD (whoD s i x3).2 s).1] ∧ (whoD s (i + 1) x3).2 = (prinD (whoD s i x3).2 s).2) := fun i => who_succ s i x3
  have HLE : Hid (∀ i, ((whoD s i x3).1.foldl putS []).length ≤ i) := fun i => by
   have q := puts_len (whoD s i x3).1 []
   rw [who_len s i x3] at q
   simpa using q
  have HFIN : Hid (((whoD s m x3).1).foldl putS [] = wl ∧ (whoD s m x3).2 = x4) := ⟨hwl, hx4⟩
  have HFST : Hid (((whoD s 0 x3).1).foldl putS [] = [] ∧ (whoD s 0 x3).2 = x3) := ⟨rfl, rfl⟩
  skip
  have HE : Hid (askD x s = ((3, (a1, a2), ([], []), wl), x4)) := by
   show _ = _
   unfold askD
   simp [e1, e2, e3, hmt, hwl2, hx4, noRol]
  rw [HE.out]
  clear HE e1 e2 e3 hmt hwl2 hx4 hf hfn hwl hm
  unfold ShpV encStr8 at *
  obtain ⟨Sc0, Sf0, Sc1, Sf1, Sc2, Sf2, Sc3, Sf3, Sc4, Sf4, Sc5, Sf5⟩ := cf6 HS0.out
  obtain ⟨Xc0, Xf0, Xc1, Xf1, Xc2, Xf2, Xc3, Xf3, Xc4, Xf4, Xc5, Xf5⟩ := cf6 HX0.out
  go_enter Tryz.func15, Tryz.ntmps15
  go_wp2_with fail
  refine (HP1.out _ HST0.out).mono ?_
  rintro e w283 ⟨rfl, hk⟩
  have HS284 := Lib.hid (((hk.out.2).block _ (lt_of_heap HS0.out) (by have := HN.out; show ¬ _ = _; omega)).trans HS0.out)
  have HX285 := Lib.hid (((hk.out.2).block _ (lt_of_heap HX0.out) (by have := HN.out; show ¬ _ = _; omega)).trans HX0.out)
  have HS286 := Lib.hid (hk.out.1)
  have HK287 := Lib.hid ((HK0.out.mono (fun _ _ x => x.elim)).trans hk.out.2)
  clear Sc0 Sf0 Sc1 Sf1 Sc2 Sf2 Sc3 Sf3 Sc4 Sf4 Sc5 Sf5 Xc0 Xf0 Xc1 Xf1 Xc2 Xf2 Xc3 Xf3 Xc4 Xf4 Xc5 Xf5
  clear hk HP1 HS0 HX0 HST0 HK0
  clear hWA hWB
  obtain ⟨Sc0, Sf0, Sc1, Sf1, Sc2, Sf2, Sc3, Sf3, Sc4, Sf4, Sc5, Sf5⟩ := cf6 HS284.out
  obtain ⟨Xc0, Xf0, Xc1, Xf1, Xc2, Xf2, Xc3, Xf3, Xc4, Xf4, Xc5, Xf5⟩ := cf6 HX285.out
  have hal := (MapKept.heap_alloc w283 (.cells #[.int .i64 3, .string ⟨#[]⟩, .string ⟨#[]⟩, .string ⟨#[]⟩, .string ⟨#[]⟩, .slice none 0 0] 49)).1
  have hkE : Keeps (fun _ => False) w283 (w283.alloc (.cells #[.int .i64 3, .string ⟨#[]⟩, .string ⟨#[]⟩, .string ⟨#[]⟩, .string ⟨#[]⟩, .slice none 0 0] 49)) := (Keeps.refl _ _).alloc _
  obtain ⟨YB, hYB⟩ : ∃ q, w283.heap.size = q := ⟨_, rfl⟩
  rw [hYB] at hal
  have HS290 := Lib.hid (((hkE).block _ (lt_of_heap HS284.out) (fun x => x)).trans HS284.out)
  have HX291 := Lib.hid (((hkE).block _ (lt_of_heap HX285.out) (fun x => x)).trans HX285.out)
  have HN289 : Hid ((W.heap.size ≠ b ∧ WA.heap.size ≠ b ∧ WA.heap.size ≠ W.heap.size ∧ W.heap.size ≤ WA.heap.size ∧ b < W.heap.size) ∧ W.heap.size ≤ YB ∧ W.heap.size < YB ∧ WA.heap.size < YB ∧ b < YB) := ⟨HN.out, by
   have hz := HK287.out.size
   have l0 := lt_of_heap HS284.out
   have l1 := lt_of_heap HX285.out
   have ls := lt_of_heap HS286.out.1
   refine ⟨?_, ?_, ?_, ?_⟩ <;> omega⟩
  have HS292 := Lib.hid (HS286.out.keeps hkE (fun x => x))
  have HK293 := Lib.hid (HK287.out.trans (hkE.mono (fun _ _ x => x.elim)))
  have HY294 := Lib.hid hal
  clear hkE hal HS284 HX285 HN HS286 HK287
  go_upto_region 2 with fail
  clear Sc0 Sf0 Sc1 Sf1 Sc2 Sf2 Sc3 Sf3 Sc4 Sf4 Sc5 Sf5 Xc0 Xf0 Xc1 Xf1 Xc2 Xf2 Xc3 Xf3 Xc4 Xf4 Xc5 Xf5
  clear hYB
  generalize (w283.alloc (.cells #[.int .i64 3, .string ⟨#[]⟩, .string ⟨#[]⟩, .string ⟨#[]⟩, .string ⟨#[]⟩, .slice none 0 0] 49)) = w288 at *
  obtain ⟨Sc0, Sf0, Sc1, Sf1, Sc2, Sf2, Sc3, Sf3, Sc4, Sf4, Sc5, Sf5⟩ := cf6 HS290.out
  obtain ⟨Xc0, Xf0, Xc1, Xf1, Xc2, Xf2, Xc3, Xf3, Xc4, Xf4, Xc5, Xf5⟩ := cf6 HX291.out
  obtain ⟨Yc0, Yf0, Yc1, Yf1, Yc2, Yf2, Yc3, Yf3, Yc4, Yf4, Yc5, Yf5⟩ := cf6 HY294.out
  go_wp2_with fail
  refine (HP2.out _ HS292.out).mono ?_
  rintro e w295 ⟨rfl, hk⟩
  have HS296 := Lib.hid (((hk.out.2).block _ (lt_of_heap HS290.out) (by have := HN289.out; show ¬ _ = _; omega)).trans HS290.out)
  have HX297 := Lib.hid (((hk.out.2).block _ (lt_of_heap HX291.out) (by have := HN289.out; show ¬ _ = _; omega)).trans HX291.out)
  have HY298 := Lib.hid (((hk.out.2).block _ (lt_of_heap HY294.out) (by have := HN289.out; show ¬ _ = _; omega)).trans HY294.out)
  have HS299 := Lib.hid (hk.out.1)
  have HK300 := Lib.hid (HK293.out.trans hk.out.2)
  clear Sc0 Sf0 Sc1 Sf1 Sc2 Sf2 Sc3 Sf3 Sc4 Sf4 Sc5 Sf5 Xc0 Xf0 Xc1 Xf1 Xc2 Xf2 Xc3 Xf3 Xc4 Xf4 Xc5 Xf5 Yc0 Yf0 Yc1 Yf1 Yc2 Yf2 Yc3 Yf3 Yc4 Yf4 Yc5 Yf5
  clear hk HP2 HS290 HX291 HY294 HS292 HK293
  obtain ⟨Sc0, Sf0, Sc1, Sf1, Sc2, Sf2, Sc3, Sf3, Sc4, Sf4, Sc5, Sf5⟩ := cf6 HS296.out
  obtain ⟨Xc0, Xf0, Xc1, Xf1, Xc2, Xf2, Xc3, Xf3, Xc4, Xf4, Xc5, Xf5⟩ := cf6 HX297.out
  obtain ⟨Yc0, Yf0, Yc1, Yf1, Yc2, Yf2, Yc3, Yf3, Yc4, Yf4, Yc5, Yf5⟩ := cf6 HY298.out
  have hs0 : (w295.setCell ⟨YB, 1, none⟩ (.string ⟨a1.toArray⟩)).heap[YB]? = some (.cells #[.int .i64 3, .string ⟨a1.toArray⟩, .string ⟨#[]⟩, .string ⟨#[]⟩, .string ⟨#[]⟩, .slice none 0 0] 49) := heap_set (HY298.out) 1 (.string ⟨a1.toArray⟩)
  have hs1 : ((w295.setCell ⟨YB, 1, none⟩ (.string ⟨a1.toArray⟩)).setCell ⟨YB, 2, none⟩ (.string ⟨a2.toArray⟩)).heap[YB]? = some (.cells #[.int .i64 3, .string ⟨a1.toArray⟩, .string ⟨a2.toArray⟩, .string ⟨#[]⟩, .string ⟨#[]⟩, .slice none 0 0] 49) := heap_set (hs0) 2 (.string ⟨a2.toArray⟩)
  have hkE : Keeps (fun q => q = YB) w295 ((w295.setCell ⟨YB, 1, none⟩ (.string ⟨a1.toArray⟩)).setCell ⟨YB, 2, none⟩ (.string ⟨a2.toArray⟩)) := (Keeps.setCell (S := fun q => q = YB) (Keeps.setCell (S := fun q => q = YB) (Keeps.refl _ _) (p := ⟨YB, 1, none⟩) (fun _ => rfl) _) (p := ⟨YB, 2, none⟩) (fun _ => rfl) _)
  have HY302 := Lib.hid hs1
  have HS303 := Lib.hid (((hkE).block _ (lt_of_heap HS296.out) (by have := HN289.out; show ¬ _ = _; omega)).trans HS296.out)
  have HX304 := Lib.hid (((hkE).block _ (lt_of_heap HX297.out) (by have := HN289.out; show ¬ _ = _; omega)).trans HX297.out)
  have HS305 := Lib.hid (HS299.out.keeps hkE (by have := HN289.out; show ¬ _ = _; omega))
  have HK306 := Lib.hid (HK300.out.trans_new hkE (fun q hq e => by have := HN289.out; omega))
  clear hkE hs0 hs1 HY298 HS296 HX297 HS299 HK300
  go_upto_region 3 with fail
  clear Sc0 Sf0 Sc1 Sf1 Sc2 Sf2 Sc3 Sf3 Sc4 Sf4 Sc5 Sf5 Xc0 Xf0 Xc1 Xf1 Xc2 Xf2 Xc3 Xf3 Xc4 Xf4 Xc5 Xf5 Yc0 Yf0 Yc1 Yf1 Yc2 Yf2 Yc3 Yf3 Yc4 Yf4 Yc5 Yf5
  generalize ((w295.setCell ⟨YB, 1, none⟩ (.string ⟨a1.toArray⟩)).setCell ⟨YB, 2, none⟩ (.string ⟨a2.toArray⟩)) = w301 at *
  obtain ⟨Sc0, Sf0, Sc1, Sf1, Sc2, Sf2, Sc3, Sf3, Sc4, Sf4, Sc5, Sf5⟩ := cf6 HS303.out
  obtain ⟨Xc0, Xf0, Xc1, Xf1, Xc2, Xf2, Xc3, Xf3, Xc4, Xf4, Xc5, Xf5⟩ := cf6 HX304.out
  obtain ⟨Yc0, Yf0, Yc1, Yf1, Yc2, Yf2, Yc3, Yf3, Yc4, Yf4, Yc5, Yf5⟩ := cf6 HY302.out
  go_upto_region 7 with fail
  go_wp2_with fail
  refine (HP3.out _ HS305.out).mono ?_
  rintro e w307 ⟨rfl, hk⟩
  have HS308 := Lib.hid (((hk.out.2).block _ (lt_of_heap HS303.out) (by have := HN289.out; show ¬ _ = _; omega)).trans HS303.out)
  have HX309 := Lib.hid (((hk.out.2).block _ (lt_of_heap HX304.out) (by have := HN289.out; show ¬ _ = _; omega)).trans HX304.out)
  have HY310 := Lib.hid (((hk.out.2).block _ (lt_of_heap HY302.out) (by have := HN289.out; show ¬ _ = _; omega)).trans HY302.out)
  have HS311 := Lib.hid (hk.out.1)
  have HK312 := Lib.hid (HK306.out.trans hk.out.2)
  clear Sc0 Sf0 Sc1 Sf1 Sc2 Sf2 Sc3 Sf3 Sc4 Sf4 Sc5 Sf5 Xc0 Xf0 Xc1 Xf1 Xc2 Xf2 Xc3 Xf3 Xc4 Xf4 Xc5 Xf5 Yc0 Yf0 Yc1 Yf1 Yc2 Yf2 Yc3 Yf3 Yc4 Yf4 Yc5 Yf5
  clear hk HP3 HS303 HX304 HY302 HS305 HK306
  obtain ⟨Sc0, Sf0, Sc1, Sf1, Sc2, Sf2, Sc3, Sf3, Sc4, Sf4, Sc5, Sf5⟩ := cf6 HS308.out
  obtain ⟨Xc0, Xf0, Xc1, Xf1, Xc2, Xf2, Xc3, Xf3, Xc4, Xf4, Xc5, Xf5⟩ := cf6 HX309.out
  obtain ⟨Yc0, Yf0, Yc1, Yf1, Yc2, Yf2, Yc3, Yf3, Yc4, Yf4, Yc5, Yf5⟩ := cf6 HY310.out
  go_upto_region 8 with fail
  clear Sc0 Sf0 Sc1 Sf1 Sc2 Sf2 Sc3 Sf3 Sc4 Sf4 Sc5 Sf5 Xc0 Xf0 Xc1 Xf1 Xc2 Xf2 Xc3 Xf3 Xc4 Xf4 Xc5 Xf5 Yc0 Yf0 Yc1 Yf1 Yc2 Yf2 Yc3 Yf3 Yc4 Yf4 Yc5 Yf5
  go_wp2_with fail
  go_loopg [7] m (fun g t wx => ∃ (i : Nat) (ao : Option Addr) (cap : Nat), i ≤ m ∧ g = m - i ∧ t = .int .i64 i ∧ Hid (StB wx 30 b (whoD s i x3).2 ∧ Keeps (fun q => q = b) W wx ∧ wx.heap[W.heap.size]? = some (.cells #[.int .i64 s.prins, .int .i64 s.links, .int .i64 s.stmts, .int .i64 s.grow, .int .i64 s.shrink, .int .i64 s.asks] 24) ∧ wx.heap[WA.heap.size]? = some (.cells #[.int .i64 0, .string ⟨#[]⟩, .string ⟨#[]⟩, .string ⟨#[]⟩, .string ⟨#[]⟩, .slice none 0 0] 49) ∧ wx.heap[YB]? = some (.cells #[.int .i64 3, .string ⟨a1.toArray⟩, .string ⟨a2.toArray⟩, .string ⟨#[]⟩, .string ⟨#[]⟩, .slice ao ((whoD s i x3).1.foldl putS []).length cap] 49) ∧ RowAt (YB + 1) wx (.slice ao ((whoD s i x3).1.foldl putS []).length cap) ((whoD s i x3).1.foldl putS [])))
  case atStart => exact ⟨0, none, 0, Nat.zero_le _, rfl, rfl, by rw [HFST.out.1, HFST.out.2]; exact ⟨HS311.out, HK312.out, HS308.out, HX309.out, HY310.out, RowAt.nil _ _⟩⟩
  case round =>
   obtain ⟨i, ao, cap, hi, rfl, rfl, HI⟩ := hrel
   clear HS311 HK312 HS308 HX309 HY310
   by_cases hlt : i < m
   ·have hiI : (i : Int) < (m : Int) := by omega
    have hwi : IntKind.i64.wrap ((i : Int) + 1) = (i : Int) + 1 := IntWalk.i64_in _ (by omega)
    have HS1 := Lib.hid HI.out.2.2.1
    have HX1 := Lib.hid HI.out.2.2.2.1
    have HY1 := Lib.hid HI.out.2.2.2.2.1
    have HR1 := Lib.hid HI.out.2.2.2.2.2
    have HT1 := Lib.hid HI.out.1
    have HK1 := Lib.hid HI.out.2.1
    obtain ⟨y, hy⟩ : ∃ q, (whoD s i x3).2 = q := ⟨_, rfl⟩
    obtain ⟨ol, hol⟩ : ∃ q, (whoD s i x3).1.foldl putS [] = q := ⟨_, rfl⟩
    have HNX : Hid ((whoD s (i + 1) x3).1.foldl putS [] = putS ol (prinD y s).1 ∧ (whoD s (i + 1) x3).2 = (belD y s.prins).2 ∧ ol.length ≤ i) := by
     refine ⟨?_, ?_, ?_⟩
     ·rw [(HSU.out i).1, puts_snoc, hol, hy]
     ·rw [(HSU.out i).2, hy, HPS.out]
     ·rw [← hol]; exact HLE.out i
    rw [hol] at HY1 HR1
    rw [hy] at HT1
    have HB1 : Hid (∀ W, StB W 30 b y → Calls Tryz.prog 9 #[.pointer (some ⟨b, 0, none⟩), .int .i64 s.prins] W (DrTo W 30 b (.int .i64 (belD y s.prins).1) (belD y s.prins).2)) := fun W h => HPB.out y W h
    have HL1 : Hid (∀ W : World, Calls Tryz.prog 26 #[.int .u8 65, .int .i64 (belD y s.prins).1] W fun e W' => e = .returned (.string ⟨(prinD y s).1.toArray⟩) ∧ Hid (Keeps (fun _ => False) W W')) := fun W => HPL.out y W
    obtain ⟨⟨kq, yq⟩, hbq⟩ : ∃ q, belD y s.prins = q := ⟨_, rfl⟩
    obtain ⟨u, hu⟩ : ∃ q, (prinD y s).1 = q := ⟨_, rfl⟩
    rw [hbq] at HB1 HL1 HNX
    rw [hu] at HL1 HNX
    simp only at HB1 HL1
    have HPP : Hid (∀ W : World, ReadsS W (.slice ao ol.length cap) ol → Calls Tryz.prog 32 #[.slice ao ol.length cap, .string ⟨u.toArray⟩] W fun e W' => ∃ v', e = .returned v' ∧ Hid (Keeps (fun _ => False) W W' ∧ ReadsS W' v' (putS ol u) ∧ Fresh W (.slice ao ol.length cap) v')) := fun W h => ref_put_at h (by have := HNX.out.2.2; omega) u
    clear HI hy hol hbq hu
    obtain ⟨Sc0, Sf0, Sc1, Sf1, Sc2, Sf2, Sc3, Sf3, Sc4, Sf4, Sc5, Sf5⟩ := cf6 HS1.out
    obtain ⟨Xc0, Xf0, Xc1, Xf1, Xc2, Xf2, Xc3, Xf3, Xc4, Xf4, Xc5, Xf5⟩ := cf6 HX1.out
    obtain ⟨Yc0, Yf0, Yc1, Yf1, Yc2, Yf2, Yc3, Yf3, Yc4, Yf4, Yc5, Yf5⟩ := cf6 HY1.out
    go_upto_region 11 with fail
    clear Sc0 Sf0 Sc1 Sf1 Sc2 Sf2 Sc3 Sf3 Sc4 Sf4 Sc5 Sf5 Xc0 Xf0 Xc1 Xf1 Xc2 Xf2 Xc3 Xf3 Xc4 Xf4 Xc5 Xf5 Yc0 Yf0 Yc1 Yf1 Yc2 Yf2 Yc3 Yf3 Yc4 Yf4 Yc5 Yf5
    have HMK313 : Hid (∀ w' : World, w'.heap[W.heap.size]? = some (.cells #[.int .i64 s.prins, .int .i64 s.links, .int .i64 s.stmts, .int .i64 s.grow, .int .i64 s.shrink, .int .i64 s.asks] 24) → w'.cell? ⟨W.heap.size, 0, none⟩ = some (.int .i64 s.prins) ∧ w'.cell? ⟨W.heap.size, 1, none⟩ = some (.int .i64 s.links) ∧ w'.cell? ⟨W.heap.size, 2, none⟩ = some (.int .i64 s.stmts) ∧ w'.cell? ⟨W.heap.size, 3, none⟩ = some (.int .i64 s.grow) ∧ w'.cell? ⟨W.heap.size, 4, none⟩ = some (.int .i64 s.shrink) ∧ w'.cell? ⟨W.heap.size, 5, none⟩ = some (.int .i64 s.asks) ∧ Hid (w'.heap[W.heap.size]? = some (.cells #[.int .i64 s.prins, .int .i64 s.links, .int .i64 s.stmts, .int .i64 s.grow, .int .i64 s.shrink, .int .i64 s.asks] 24))) := fun w' h0 => ⟨(by rw [cell_of_heap h0]; rfl), (by rw [cell_of_heap h0]; rfl), (by rw [cell_of_heap h0]; rfl), (by rw [cell_of_heap h0]; rfl), (by rw [cell_of_heap h0]; rfl), (by rw [cell_of_heap h0]; rfl), Lib.hid h0⟩
    have hkd : Keeps (fun _ => False) wr wr.drew := (Keeps.refl _ _).drew
    have HS314 := Lib.hid (((hkd).block _ (lt_of_heap HS1.out) (fun x => x)).trans HS1.out)
    have HX315 := Lib.hid (((hkd).block _ (lt_of_heap HX1.out) (fun x => x)).trans HX1.out)
    have HY316 := Lib.hid (((hkd).block _ (lt_of_heap HY1.out) (fun x => x)).trans HY1.out)
    have HE317 := Lib.hid (RowAt.keeps HR1.out (hkd) (fun _ _ _ x => x))
    have HS318 := Lib.hid (HT1.out.keeps hkd (fun x => x))
    have HK319 := Lib.hid (HK1.out.drew)
    have hS0 := HMK313.out wr.drew HS314.out
    clear hkd HS1 HX1 HY1 HR1 HT1 HK1
    refine wp_region_noPanic ?_
    refine wp_region_held_drew (S := (fun w' => w'.cell? ⟨W.heap.size, 0, none⟩ = some (.int .i64 s.prins) ∧ w'.cell? ⟨W.heap.size, 1, none⟩ = some (.int .i64 s.links) ∧ w'.cell? ⟨W.heap.size, 2, none⟩ = some (.int .i64 s.stmts) ∧ w'.cell? ⟨W.heap.size, 3, none⟩ = some (.int .i64 s.grow) ∧ w'.cell? ⟨W.heap.size, 4, none⟩ = some (.int .i64 s.shrink) ∧ w'.cell? ⟨W.heap.size, 5, none⟩ = some (.int .i64 s.asks) ∧ Hid (w'.heap[W.heap.size]? = some (.cells #[.int .i64 s.prins, .int .i64 s.links, .int .i64 s.stmts, .int .i64 s.grow, .int .i64 s.shrink, .int .i64 s.asks] 24)))) (by kernel_rfl) hS0 (fun hHeld => ?_)
    clear hS0
    generalize wr.drew = w320 at *
    refine wpAnyH_take_at (i := 0) (v := ?v0_321) rfl (by kernel_rfl) (by kernel_rfl) (by kernel_rfl) (fun _ _ _ h => h) (Or.inl ⟨by rfl, ?y0_321⟩) hHeld ?r0_321
    case y0_321 => (intro w hSw; (try dsimp only at hSw); go_simp; first | done | with_reducible rfl)
    (try simp only [Act.put, nm1, nm2, nm3])
    refine wpAnyH_take_at (i := 2) (v := ?v2_322) rfl (by kernel_rfl) (by kernel_rfl) (by kernel_rfl) (fun _ _ _ h => h) (Or.inl ⟨by rfl, ?y2_322⟩) hHeld ?r2_322
    case y2_322 => (intro w hSw; (try dsimp only at hSw); go_simp; first | done | with_reducible rfl)
    (try simp only [Act.put, nm1, nm2, nm3])
    refine wpAnyH_take_at (i := 3) (v := ?v3_323) rfl (by kernel_rfl) (by kernel_rfl) (by kernel_rfl) (fun _ _ _ h => h) (Or.inl ⟨by rfl, ?y3_323⟩) hHeld ?r3_323
    case y3_323 => (intro w hSw; (try dsimp only at hSw); go_simp; first | done | with_reducible rfl)
    (try simp only [Act.put, nm1, nm2, nm3])
    refine wpAnyH_take_at (i := 4) (v := ?v4_324) rfl (by kernel_rfl) (by kernel_rfl) (by kernel_rfl) (fun _ _ _ h => h) (Or.inl ⟨by rfl, ?y4_324⟩) hHeld ?r4_324
    case y4_324 => (intro w hSw; (try dsimp only at hSw); go_simp; first | done | with_reducible rfl)
    (try simp only [Act.put, nm1, nm2, nm3])
    refine wpAnyH_two (i := 1) (j := 5) (by kernel_rfl) rfl rfl (fun KK hK => ?p1_325) (fun KK hK => ?p5_325)
    case p1_325 =>
     obtain ⟨Yc0, Yf0, Yc1, Yf1, Yc2, Yf2, Yc3, Yf3, Yc4, Yf4, Yc5, Yf5⟩ := cf6 HY316.out
     go_simp
     refine hK.out _ _ ?s_326 (fun hHeld => ?_)
     case s_326 => exact HMK313.out _ HS314.out
     clear hK KK
     (try simp only [Act.put, nm1, nm2, nm3])
     clear Yc0 Yf0 Yc1 Yf1 Yc2 Yf2 Yc3 Yf3 Yc4 Yf4 Yc5 Yf5
     refine wpAnyH_one (i := 5) (by kernel_rfl) rfl (fun KK hK => ?_)
     go_simp
     refine (HB1.out _ HS318.out).mono ?_
     rintro e w327 ⟨rfl, hk⟩
     have HS328 := Lib.hid (((hk.out.2).block _ (lt_of_heap HS314.out) (by have := HN289.out; show ¬ _ = _; omega)).trans HS314.out)
     have HX329 := Lib.hid (((hk.out.2).block _ (lt_of_heap HX315.out) (by have := HN289.out; show ¬ _ = _; omega)).trans HX315.out)
     have HY330 := Lib.hid (((hk.out.2).block _ (lt_of_heap HY316.out) (by have := HN289.out; show ¬ _ = _; omega)).trans HY316.out)
     have HE331 := Lib.hid (RowAt.keeps HE317.out (hk.out.2) (fun q hq _ => by have := HN289.out; show ¬ _ = _; omega))
     have HS332 := Lib.hid (hk.out.1)
     have HK333 := Lib.hid (HK319.out.trans (hk.out.2))
     clear hk HB1 HS314 HX315 HY316 HE317 HS318 HK319
     go_simp
     refine hK.out _ _ ?s_334 (fun hHeld => ?_)
     case s_334 => exact HMK313.out _ HS328.out
     clear hK KK
     (try simp only [Act.put, nm1, nm2, nm3])
     refine wpAnyH_one (i := 6) (by kernel_rfl) rfl (fun KK hK => ?_)
     go_simp
     refine (HL1.out _).mono ?_
     rintro e w335 ⟨rfl, hk⟩
     have HS336 := Lib.hid (((hk.out).block _ (lt_of_heap HS328.out) (fun x => x)).trans HS328.out)
     have HX337 := Lib.hid (((hk.out).block _ (lt_of_heap HX329.out) (fun x => x)).trans HX329.out)
     have HY338 := Lib.hid (((hk.out).block _ (lt_of_heap HY330.out) (fun x => x)).trans HY330.out)
     have HE339 := Lib.hid (RowAt.keeps HE331.out (hk.out) (fun _ _ _ x => x))
     have HS340 := Lib.hid (HS332.out.keeps hk.out (fun x => x))
     have HK341 := Lib.hid (HK333.out.trans (hk.out.mono (fun _ _ x => x.elim)))
     clear hk HL1 HS328 HX329 HY330 HE331 HS332 HK333
     go_simp
     refine hK.out _ _ ?s_342 (fun hHeld => ?_)
     case s_342 => exact HMK313.out _ HS336.out
     clear hK KK
     (try simp only [Act.put, nm1, nm2, nm3])
     refine wpAnyH_one (i := 7) (by kernel_rfl) rfl (fun KK hK => ?_)
     go_simp
     refine (HPP.out _ HE339.out.1).mono ?_
     rintro e w343 ⟨pv, rfl, hk⟩
     obtain ⟨pao, pcap, hpv, hpv2⟩ := id hk.out.2.1
     clear hpv2
     subst hpv
     have HRP : Hid (RowAt (YB + 1) w343 (.slice pao (putS ol u).length pcap) (putS ol u)) := ⟨hk.out.2.1, fun k hk2 => by
      have q0 := lt_of_heap HY338.out
      have q1 := hk.out.1.size
      rcases hk.out.2.2 k hk2 with q | q
      ·have q2 := HE339.out.2 k q
       exact ⟨q2.1, by omega⟩
      ·exact ⟨by omega, own_of_reads hk.out.2.1 (put_pos ol u) k hk2⟩⟩
     have HS344 := Lib.hid (((hk.out.1).block _ (lt_of_heap HS336.out) (fun x => x)).trans HS336.out)
     have HX345 := Lib.hid (((hk.out.1).block _ (lt_of_heap HX337.out) (fun x => x)).trans HX337.out)
     have HY346 := Lib.hid (((hk.out.1).block _ (lt_of_heap HY338.out) (fun x => x)).trans HY338.out)
     have HS347 := Lib.hid (HS340.out.keeps hk.out.1 (fun x => x))
     have HK348 := Lib.hid (HK341.out.trans (hk.out.1.mono (fun _ _ x => x.elim)))
     clear hk HPP HS336 HX337 HY338 HE339 HS340 HK341
     go_simp
     refine hK.out _ _ ?s_349 (fun hHeld => ?_)
     case s_349 => exact HMK313.out _ HS344.out
     clear hK KK
     (try simp only [Act.put, nm1, nm2, nm3])
     refine wpAnyH_one (i := 8) (by kernel_rfl) rfl (fun KK hK => ?_)
     go_simp
     refine hK.out _ _ ?s_350 (fun hHeld => ?_)
     case s_350 => exact HMK313.out _ HS344.out
     clear hK KK
     (try simp only [Act.put, nm1, nm2, nm3])
     refine wpAnyH_one (i := 9) (by kernel_rfl) rfl (fun KK hK => ?_)
     obtain ⟨Yc0, Yf0, Yc1, Yf1, Yc2, Yf2, Yc3, Yf3, Yc4, Yf4, Yc5, Yf5⟩ := cf6 HY346.out
     have hs0 : (w343.setCell ⟨YB, 5, none⟩ (.slice pao (putS ol u).length pcap)).heap[YB]? = some (.cells #[.int .i64 3, .string ⟨a1.toArray⟩, .string ⟨a2.toArray⟩, .string ⟨#[]⟩, .string ⟨#[]⟩, .slice pao (putS ol u).length pcap] 49) := heap_set HY346.out 5 (.slice pao (putS ol u).length pcap)
     have hkE : Keeps (fun q => q = YB) w343 (w343.setCell ⟨YB, 5, none⟩ (.slice pao (putS ol u).length pcap)) := Keeps.setCell (S := fun q => q = YB) (Keeps.refl _ _) (p := ⟨YB, 5, none⟩) (fun _ => rfl) _
     have HY351 := Lib.hid hs0
     have HS352 := Lib.hid (((hkE).block _ (lt_of_heap HS344.out) (by have := HN289.out; show ¬ _ = _; omega)).trans HS344.out)
     have HX353 := Lib.hid (((hkE).block _ (lt_of_heap HX345.out) (by have := HN289.out; show ¬ _ = _; omega)).trans HX345.out)
     have HE354 := Lib.hid (RowAt.keeps HRP.out (hkE) (fun q hq _ => by have := HN289.out; show ¬ _ = _; omega))
     have HS355 := Lib.hid (HS347.out.keeps hkE (by have := HN289.out; show ¬ _ = _; omega))
     have HK356 := Lib.hid (HK348.out.trans_new hkE (fun q hq e => by have := HN289.out; omega))
     go_simp
     refine hK.out _ _ ?s_357 (fun hHeld => ?_)
     case s_357 => exact HMK313.out _ HS352.out
     clear hK KK
     (try simp only [Act.put, nm1, nm2, nm3])
     clear hkE hs0  HY346 HS344 HX345 HRP HS347 HK348
     clear Yc0 Yf0 Yc1 Yf1 Yc2 Yf2 Yc3 Yf3 Yc4 Yf4 Yc5 Yf5
     generalize (w343.setCell ⟨YB, 5, none⟩ (.slice pao (putS ol u).length pcap)) = w358 at *
     refine wpAnyH_done (by kernel_rfl) ?_ _
     refine NoPanic.normal ?_
     clear hHeld HMK313
     have HN2 : Hid (StB w358 30 b (whoD s (i + 1) x3).2 ∧ Keeps (fun q => q = b) W w358 ∧ w358.heap[W.heap.size]? = some (.cells #[.int .i64 s.prins, .int .i64 s.links, .int .i64 s.stmts, .int .i64 s.grow, .int .i64 s.shrink, .int .i64 s.asks] 24) ∧ w358.heap[WA.heap.size]? = some (.cells #[.int .i64 0, .string ⟨#[]⟩, .string ⟨#[]⟩, .string ⟨#[]⟩, .string ⟨#[]⟩, .slice none 0 0] 49) ∧ w358.heap[YB]? = some (.cells #[.int .i64 3, .string ⟨a1.toArray⟩, .string ⟨a2.toArray⟩, .string ⟨#[]⟩, .string ⟨#[]⟩, .slice pao ((whoD s (i + 1) x3).1.foldl putS []).length pcap] 49) ∧ RowAt (YB + 1) w358 (.slice pao ((whoD s (i + 1) x3).1.foldl putS []).length pcap) ((whoD s (i + 1) x3).1.foldl putS [])) := by rw [HNX.out.1, HNX.out.2.1]; exact ⟨HS355.out, HK356.out, HS352.out, HX353.out, HY351.out, HE354.out⟩
     clear HS355 HK356 HS352 HX353 HY351 HE354
     go_wp2_with fail
     go_roundg (m - (i + 1))
     case measure => omega
     case rel => exact ⟨i + 1, pao, pcap, by omega, rfl, by go_num, HN2⟩
    case p5_325 =>
     go_simp
     refine (HB1.out _ HS318.out).mono ?_
     rintro e w359 ⟨rfl, hk⟩
     have HS360 := Lib.hid (((hk.out.2).block _ (lt_of_heap HS314.out) (by have := HN289.out; show ¬ _ = _; omega)).trans HS314.out)
     have HX361 := Lib.hid (((hk.out.2).block _ (lt_of_heap HX315.out) (by have := HN289.out; show ¬ _ = _; omega)).trans HX315.out)
     have HY362 := Lib.hid (((hk.out.2).block _ (lt_of_heap HY316.out) (by have := HN289.out; show ¬ _ = _; omega)).trans HY316.out)
     have HE363 := Lib.hid (RowAt.keeps HE317.out (hk.out.2) (fun q hq _ => by have := HN289.out; show ¬ _ = _; omega))
     have HS364 := Lib.hid (hk.out.1)
     have HK365 := Lib.hid (HK319.out.trans (hk.out.2))
     clear hk HB1 HS314 HX315 HY316 HE317 HS318 HK319
     go_simp
     refine hK.out _ _ ?s_366 (fun hHeld => ?_)
     case s_366 => exact HMK313.out _ HS360.out
     clear hK KK
     (try simp only [Act.put, nm1, nm2, nm3])
     refine wpAnyH_two (i := 1) (j := 6) (by kernel_rfl) rfl rfl (fun KK hK => ?p1_367) (fun KK hK => ?p6_367)
     case p1_367 =>
      obtain ⟨Yc0, Yf0, Yc1, Yf1, Yc2, Yf2, Yc3, Yf3, Yc4, Yf4, Yc5, Yf5⟩ := cf6 HY362.out
      go_simp
      refine hK.out _ _ ?s_368 (fun hHeld => ?_)
      case s_368 => exact HMK313.out _ HS360.out
      clear hK KK
      (try simp only [Act.put, nm1, nm2, nm3])
      clear Yc0 Yf0 Yc1 Yf1 Yc2 Yf2 Yc3 Yf3 Yc4 Yf4 Yc5 Yf5
      refine wpAnyH_one (i := 6) (by kernel_rfl) rfl (fun KK hK => ?_)
      go_simp
      refine (HL1.out _).mono ?_
      rintro e w369 ⟨rfl, hk⟩
      have HS370 := Lib.hid (((hk.out).block _ (lt_of_heap HS360.out) (fun x => x)).trans HS360.out)
      have HX371 := Lib.hid (((hk.out).block _ (lt_of_heap HX361.out) (fun x => x)).trans HX361.out)
      have HY372 := Lib.hid (((hk.out).block _ (lt_of_heap HY362.out) (fun x => x)).trans HY362.out)
      have HE373 := Lib.hid (RowAt.keeps HE363.out (hk.out) (fun _ _ _ x => x))
      have HS374 := Lib.hid (HS364.out.keeps hk.out (fun x => x))
      have HK375 := Lib.hid (HK365.out.trans (hk.out.mono (fun _ _ x => x.elim)))
      clear hk HL1 HS360 HX361 HY362 HE363 HS364 HK365
      go_simp
      refine hK.out _ _ ?s_376 (fun hHeld => ?_)
      case s_376 => exact HMK313.out _ HS370.out
      clear hK KK
      (try simp only [Act.put, nm1, nm2, nm3])
      refine wpAnyH_one (i := 7) (by kernel_rfl) rfl (fun KK hK => ?_)
      go_simp
      refine (HPP.out _ HE373.out.1).mono ?_
      rintro e w377 ⟨pv, rfl, hk⟩
      obtain ⟨pao, pcap, hpv, hpv2⟩ := id hk.out.2.1
      clear hpv2
      subst hpv
      have HRP : Hid (RowAt (YB + 1) w377 (.slice pao (putS ol u).length pcap) (putS ol u)) := ⟨hk.out.2.1, fun k hk2 => by
       have q0 := lt_of_heap HY372.out
       have q1 := hk.out.1.size
       rcases hk.out.2.2 k hk2 with q | q
       ·have q2 := HE373.out.2 k q
        exact ⟨q2.1, by omega⟩
       ·exact ⟨by omega, own_of_reads hk.out.2.1 (put_pos ol u) k hk2⟩⟩
      have HS378 := Lib.hid (((hk.out.1).block _ (lt_of_heap HS370.out) (fun x => x)).trans HS370.out)
      have HX379 := Lib.hid (((hk.out.1).block _ (lt_of_heap HX371.out) (fun x => x)).trans HX371.out)
      have HY380 := Lib.hid (((hk.out.1).block _ (lt_of_heap HY372.out) (fun x => x)).trans HY372.out)
      have HS381 := Lib.hid (HS374.out.keeps hk.out.1 (fun x => x))
      have HK382 := Lib.hid (HK375.out.trans (hk.out.1.mono (fun _ _ x => x.elim)))
      clear hk HPP HS370 HX371 HY372 HE373 HS374 HK375
      go_simp
      refine hK.out _ _ ?s_383 (fun hHeld => ?_)
      case s_383 => exact HMK313.out _ HS378.out
      clear hK KK
      (try simp only [Act.put, nm1, nm2, nm3])
      refine wpAnyH_one (i := 8) (by kernel_rfl) rfl (fun KK hK => ?_)
      go_simp
      refine hK.out _ _ ?s_384 (fun hHeld => ?_)
      case s_384 => exact HMK313.out _ HS378.out
      clear hK KK
      (try simp only [Act.put, nm1, nm2, nm3])
      refine wpAnyH_one (i := 9) (by kernel_rfl) rfl (fun KK hK => ?_)
      obtain ⟨Yc0, Yf0, Yc1, Yf1, Yc2, Yf2, Yc3, Yf3, Yc4, Yf4, Yc5, Yf5⟩ := cf6 HY380.out
      have hs0 : (w377.setCell ⟨YB, 5, none⟩ (.slice pao (putS ol u).length pcap)).heap[YB]? = some (.cells #[.int .i64 3, .string ⟨a1.toArray⟩, .string ⟨a2.toArray⟩, .string ⟨#[]⟩, .string ⟨#[]⟩, .slice pao (putS ol u).length pcap] 49) := heap_set HY380.out 5 (.slice pao (putS ol u).length pcap)
      have hkE : Keeps (fun q => q = YB) w377 (w377.setCell ⟨YB, 5, none⟩ (.slice pao (putS ol u).length pcap)) := Keeps.setCell (S := fun q => q = YB) (Keeps.refl _ _) (p := ⟨YB, 5, none⟩) (fun _ => rfl) _
      have HY385 := Lib.hid hs0
      have HS386 := Lib.hid (((hkE).block _ (lt_of_heap HS378.out) (by have := HN289.out; show ¬ _ = _; omega)).trans HS378.out)
      have HX387 := Lib.hid (((hkE).block _ (lt_of_heap HX379.out) (by have := HN289.out; show ¬ _ = _; omega)).trans HX379.out)
      have HE388 := Lib.hid (RowAt.keeps HRP.out (hkE) (fun q hq _ => by have := HN289.out; show ¬ _ = _; omega))
      have HS389 := Lib.hid (HS381.out.keeps hkE (by have := HN289.out; show ¬ _ = _; omega))
      have HK390 := Lib.hid (HK382.out.trans_new hkE (fun q hq e => by have := HN289.out; omega))
      go_simp
      refine hK.out _ _ ?s_391 (fun hHeld => ?_)
      case s_391 => exact HMK313.out _ HS386.out
      clear hK KK
      (try simp only [Act.put, nm1, nm2, nm3])
      clear hkE hs0  HY380 HS378 HX379 HRP HS381 HK382
      clear Yc0 Yf0 Yc1 Yf1 Yc2 Yf2 Yc3 Yf3 Yc4 Yf4 Yc5 Yf5
      generalize (w377.setCell ⟨YB, 5, none⟩ (.slice pao (putS ol u).length pcap)) = w392 at *
      refine wpAnyH_done (by kernel_rfl) ?_ _
      refine NoPanic.normal ?_
      clear hHeld HMK313
      have HN2 : Hid (StB w392 30 b (whoD s (i + 1) x3).2 ∧ Keeps (fun q => q = b) W w392 ∧ w392.heap[W.heap.size]? = some (.cells #[.int .i64 s.prins, .int .i64 s.links, .int .i64 s.stmts, .int .i64 s.grow, .int .i64 s.shrink, .int .i64 s.asks] 24) ∧ w392.heap[WA.heap.size]? = some (.cells #[.int .i64 0, .string ⟨#[]⟩, .string ⟨#[]⟩, .string ⟨#[]⟩, .string ⟨#[]⟩, .slice none 0 0] 49) ∧ w392.heap[YB]? = some (.cells #[.int .i64 3, .string ⟨a1.toArray⟩, .string ⟨a2.toArray⟩, .string ⟨#[]⟩, .string ⟨#[]⟩, .slice pao ((whoD s (i + 1) x3).1.foldl putS []).length pcap] 49) ∧ RowAt (YB + 1) w392 (.slice pao ((whoD s (i + 1) x3).1.foldl putS []).length pcap) ((whoD s (i + 1) x3).1.foldl putS [])) := by rw [HNX.out.1, HNX.out.2.1]; exact ⟨HS389.out, HK390.out, HS386.out, HX387.out, HY385.out, HE388.out⟩
      clear HS389 HK390 HS386 HX387 HY385 HE388
      go_wp2_with fail
      go_roundg (m - (i + 1))
      case measure => omega
      case rel => exact ⟨i + 1, pao, pcap, by omega, rfl, by go_num, HN2⟩
     case p6_367 =>
      go_simp
      refine (HL1.out _).mono ?_
      rintro e w393 ⟨rfl, hk⟩
      have HS394 := Lib.hid (((hk.out).block _ (lt_of_heap HS360.out) (fun x => x)).trans HS360.out)
      have HX395 := Lib.hid (((hk.out).block _ (lt_of_heap HX361.out) (fun x => x)).trans HX361.out)
      have HY396 := Lib.hid (((hk.out).block _ (lt_of_heap HY362.out) (fun x => x)).trans HY362.out)
      have HE397 := Lib.hid (RowAt.keeps HE363.out (hk.out) (fun _ _ _ x => x))
      have HS398 := Lib.hid (HS364.out.keeps hk.out (fun x => x))
      have HK399 := Lib.hid (HK365.out.trans (hk.out.mono (fun _ _ x => x.elim)))
      clear hk HL1 HS360 HX361 HY362 HE363 HS364 HK365
      go_simp
      refine hK.out _ _ ?s_400 (fun hHeld => ?_)
      case s_400 => exact HMK313.out _ HS394.out
      clear hK KK
      (try simp only [Act.put, nm1, nm2, nm3])
      refine wpAnyH_one (i := 1) (by kernel_rfl) rfl (fun KK hK => ?_)
      obtain ⟨Yc0, Yf0, Yc1, Yf1, Yc2, Yf2, Yc3, Yf3, Yc4, Yf4, Yc5, Yf5⟩ := cf6 HY396.out
      go_simp
      refine hK.out _ _ ?s_401 (fun hHeld => ?_)
      case s_401 => exact HMK313.out _ HS394.out
      clear hK KK
      (try simp only [Act.put, nm1, nm2, nm3])
      clear Yc0 Yf0 Yc1 Yf1 Yc2 Yf2 Yc3 Yf3 Yc4 Yf4 Yc5 Yf5
      refine wpAnyH_one (i := 7) (by kernel_rfl) rfl (fun KK hK => ?_)
      go_simp
      refine (HPP.out _ HE397.out.1).mono ?_
      rintro e w402 ⟨pv, rfl, hk⟩
      obtain ⟨pao, pcap, hpv, hpv2⟩ := id hk.out.2.1
      clear hpv2
      subst hpv
      have HRP : Hid (RowAt (YB + 1) w402 (.slice pao (putS ol u).length pcap) (putS ol u)) := ⟨hk.out.2.1, fun k hk2 => by
       have q0 := lt_of_heap HY396.out
       have q1 := hk.out.1.size
       rcases hk.out.2.2 k hk2 with q | q
       ·have q2 := HE397.out.2 k q
        exact ⟨q2.1, by omega⟩
       ·exact ⟨by omega, own_of_reads hk.out.2.1 (put_pos ol u) k hk2⟩⟩
      have HS403 := Lib.hid (((hk.out.1).block _ (lt_of_heap HS394.out) (fun x => x)).trans HS394.out)
      have HX404 := Lib.hid (((hk.out.1).block _ (lt_of_heap HX395.out) (fun x => x)).trans HX395.out)
      have HY405 := Lib.hid (((hk.out.1).block _ (lt_of_heap HY396.out) (fun x => x)).trans HY396.out)
      have HS406 := Lib.hid (HS398.out.keeps hk.out.1 (fun x => x))
      have HK407 := Lib.hid (HK399.out.trans (hk.out.1.mono (fun _ _ x => x.elim)))
      clear hk HPP HS394 HX395 HY396 HE397 HS398 HK399
      go_simp
      refine hK.out _ _ ?s_408 (fun hHeld => ?_)
      case s_408 => exact HMK313.out _ HS403.out
      clear hK KK
      (try simp only [Act.put, nm1, nm2, nm3])
      refine wpAnyH_one (i := 8) (by kernel_rfl) rfl (fun KK hK => ?_)
      go_simp
      refine hK.out _ _ ?s_409 (fun hHeld => ?_)
      case s_409 => exact HMK313.out _ HS403.out
      clear hK KK
      (try simp only [Act.put, nm1, nm2, nm3])
      refine wpAnyH_one (i := 9) (by kernel_rfl) rfl (fun KK hK => ?_)
      obtain ⟨Yc0, Yf0, Yc1, Yf1, Yc2, Yf2, Yc3, Yf3, Yc4, Yf4, Yc5, Yf5⟩ := cf6 HY405.out
      have hs0 : (w402.setCell ⟨YB, 5, none⟩ (.slice pao (putS ol u).length pcap)).heap[YB]? = some (.cells #[.int .i64 3, .string ⟨a1.toArray⟩, .string ⟨a2.toArray⟩, .string ⟨#[]⟩, .string ⟨#[]⟩, .slice pao (putS ol u).length pcap] 49) := heap_set HY405.out 5 (.slice pao (putS ol u).length pcap)
      have hkE : Keeps (fun q => q = YB) w402 (w402.setCell ⟨YB, 5, none⟩ (.slice pao (putS ol u).length pcap)) := Keeps.setCell (S := fun q => q = YB) (Keeps.refl _ _) (p := ⟨YB, 5, none⟩) (fun _ => rfl) _
      have HY410 := Lib.hid hs0
      have HS411 := Lib.hid (((hkE).block _ (lt_of_heap HS403.out) (by have := HN289.out; show ¬ _ = _; omega)).trans HS403.out)
      have HX412 := Lib.hid (((hkE).block _ (lt_of_heap HX404.out) (by have := HN289.out; show ¬ _ = _; omega)).trans HX404.out)
      have HE413 := Lib.hid (RowAt.keeps HRP.out (hkE) (fun q hq _ => by have := HN289.out; show ¬ _ = _; omega))
      have HS414 := Lib.hid (HS406.out.keeps hkE (by have := HN289.out; show ¬ _ = _; omega))
      have HK415 := Lib.hid (HK407.out.trans_new hkE (fun q hq e => by have := HN289.out; omega))
      go_simp
      refine hK.out _ _ ?s_416 (fun hHeld => ?_)
      case s_416 => exact HMK313.out _ HS411.out
      clear hK KK
      (try simp only [Act.put, nm1, nm2, nm3])
      clear hkE hs0  HY405 HS403 HX404 HRP HS406 HK407
      clear Yc0 Yf0 Yc1 Yf1 Yc2 Yf2 Yc3 Yf3 Yc4 Yf4 Yc5 Yf5
      generalize (w402.setCell ⟨YB, 5, none⟩ (.slice pao (putS ol u).length pcap)) = w417 at *
      refine wpAnyH_done (by kernel_rfl) ?_ _
      refine NoPanic.normal ?_
      clear hHeld HMK313
      have HN2 : Hid (StB w417 30 b (whoD s (i + 1) x3).2 ∧ Keeps (fun q => q = b) W w417 ∧ w417.heap[W.heap.size]? = some (.cells #[.int .i64 s.prins, .int .i64 s.links, .int .i64 s.stmts, .int .i64 s.grow, .int .i64 s.shrink, .int .i64 s.asks] 24) ∧ w417.heap[WA.heap.size]? = some (.cells #[.int .i64 0, .string ⟨#[]⟩, .string ⟨#[]⟩, .string ⟨#[]⟩, .string ⟨#[]⟩, .slice none 0 0] 49) ∧ w417.heap[YB]? = some (.cells #[.int .i64 3, .string ⟨a1.toArray⟩, .string ⟨a2.toArray⟩, .string ⟨#[]⟩, .string ⟨#[]⟩, .slice pao ((whoD s (i + 1) x3).1.foldl putS []).length pcap] 49) ∧ RowAt (YB + 1) w417 (.slice pao ((whoD s (i + 1) x3).1.foldl putS []).length pcap) ((whoD s (i + 1) x3).1.foldl putS [])) := by rw [HNX.out.1, HNX.out.2.1]; exact ⟨HS414.out, HK415.out, HS411.out, HX412.out, HY410.out, HE413.out⟩
      clear HS414 HK415 HS411 HX412 HY410 HE413
      go_wp2_with fail
      go_roundg (m - (i + 1))
      case measure => omega
      case rel => exact ⟨i + 1, pao, pcap, by omega, rfl, by go_num, HN2⟩
   ·obtain rfl : i = m := by omega
    have hiI : ¬ (i : Int) < (i : Int) := by omega
    have HS1 := Lib.hid HI.out.2.2.1
    have HX1 := Lib.hid HI.out.2.2.2.1
    have HY1 := Lib.hid HI.out.2.2.2.2.1
    have HR1 := Lib.hid HI.out.2.2.2.2.2
    have HT1 := Lib.hid HI.out.1
    have HK1 := Lib.hid HI.out.2.1
    rw [HFIN.out.1] at HY1 HR1
    rw [HFIN.out.2] at HT1
    clear HI HFIN HFST HSU HLE HPB HPL HPS
    obtain ⟨Sc0, Sf0, Sc1, Sf1, Sc2, Sf2, Sc3, Sf3, Sc4, Sf4, Sc5, Sf5⟩ := cf6 HS1.out
    obtain ⟨Xc0, Xf0, Xc1, Xf1, Xc2, Xf2, Xc3, Xf3, Xc4, Xf4, Xc5, Xf5⟩ := cf6 HX1.out
    obtain ⟨Yc0, Yf0, Yc1, Yf1, Yc2, Yf2, Yc3, Yf3, Yc4, Yf4, Yc5, Yf5⟩ := cf6 HY1.out
    obtain ⟨hs0, hkE⟩ := sx6 HX1.out (.int .i64 3) (.string ⟨a1.toArray⟩) (.string ⟨a2.toArray⟩) (.string ⟨#[]⟩) (.string ⟨#[]⟩) (.slice ao wl.length cap)
    have HX418 := Lib.hid hs0
    have HS419 := Lib.hid (((hkE).block _ (lt_of_heap HS1.out) (by have := HN289.out; show ¬ _ = _; omega)).trans HS1.out)
    have HY420 := Lib.hid (((hkE).block _ (lt_of_heap HY1.out) (by have := HN289.out; show ¬ _ = _; omega)).trans HY1.out)
    have HE421 := Lib.hid (RowAt.keeps HR1.out (hkE) (fun q hq _ => by have := HN289.out; show ¬ _ = _; omega))
    have HS422 := Lib.hid (HT1.out.keeps hkE (by have := HN289.out; show ¬ _ = _; omega))
    have HK423 := Lib.hid (HK1.out.trans_new hkE (fun q hq e => by have := HN289.out; omega))
    clear hkE hs0 HX1 HS1 HY1 HR1 HT1 HK1
    go_wp2_with fail
    clear Sc0 Sf0 Sc1 Sf1 Sc2 Sf2 Sc3 Sf3 Sc4 Sf4 Sc5 Sf5 Xc0 Xf0 Xc1 Xf1 Xc2 Xf2 Xc3 Xf3 Xc4 Xf4 Xc5 Xf5 Yc0 Yf0 Yc1 Yf1 Yc2 Yf2 Yc3 Yf3 Yc4 Yf4 Yc5 Yf5
    generalize ((((((wr.setCell ⟨WA.heap.size, 0, none⟩ (.int .i64 3)).setCell ⟨WA.heap.size, 1, none⟩ (.string ⟨a1.toArray⟩)).setCell ⟨WA.heap.size, 2, none⟩ (.string ⟨a2.toArray⟩)).setCell ⟨WA.heap.size, 3, none⟩ (.string ⟨#[]⟩)).setCell ⟨WA.heap.size, 4, none⟩ (.string ⟨#[]⟩)).setCell ⟨WA.heap.size, 5, none⟩ (.slice ao wl.length cap)) = WE at *
    obtain ⟨Xc0, Xf0, Xc1, Xf1, Xc2, Xf2, Xc3, Xf3, Xc4, Xf4, Xc5, Xf5⟩ := cf6 HX418.out
    refine bodyPost_ret (v := .agg #[.int .i64 3, .string ⟨a1.toArray⟩, .string ⟨a2.toArray⟩, .string ⟨#[]⟩, .string ⟨#[]⟩, .slice ao wl.length cap]) (by simp [results, Tryz.results15, go_sem, *]) rfl ?_
    exact ⟨.slice ao wl.length cap, rfl, HS422.out, HK423.out, ⟨HE421.out.1, fun k hk => ⟨by have := (HE421.out.2 k hk).1; have := HN289.out; omega, (HE421.out.2 k hk).2⟩⟩⟩
 ·skip
  have HE : Hid (askD x s = ((4, (a1, a2), ([], []), []), x2)) := by
   show _ = _
   unfold askD
   simp [e1, e2, noRol]
  rw [HE.out]
  clear HE e1 e2 hf hfn 
  unfold ShpV encStr8 at *
  obtain ⟨Sc0, Sf0, Sc1, Sf1, Sc2, Sf2, Sc3, Sf3, Sc4, Sf4, Sc5, Sf5⟩ := cf6 HS0.out
  obtain ⟨Xc0, Xf0, Xc1, Xf1, Xc2, Xf2, Xc3, Xf3, Xc4, Xf4, Xc5, Xf5⟩ := cf6 HX0.out
  go_enter Tryz.func15, Tryz.ntmps15
  go_wp2_with fail
  refine (HP1.out _ HST0.out).mono ?_
  rintro e w424 ⟨rfl, hk⟩
  have HS425 := Lib.hid (((hk.out.2).block _ (lt_of_heap HS0.out) (by have := HN.out; show ¬ _ = _; omega)).trans HS0.out)
  have HX426 := Lib.hid (((hk.out.2).block _ (lt_of_heap HX0.out) (by have := HN.out; show ¬ _ = _; omega)).trans HX0.out)
  have HS427 := Lib.hid (hk.out.1)
  have HK428 := Lib.hid ((HK0.out.mono (fun _ _ x => x.elim)).trans hk.out.2)
  clear Sc0 Sf0 Sc1 Sf1 Sc2 Sf2 Sc3 Sf3 Sc4 Sf4 Sc5 Sf5 Xc0 Xf0 Xc1 Xf1 Xc2 Xf2 Xc3 Xf3 Xc4 Xf4 Xc5 Xf5
  clear hk HP1 HS0 HX0 HST0 HK0
  clear hWA hWB
  obtain ⟨Sc0, Sf0, Sc1, Sf1, Sc2, Sf2, Sc3, Sf3, Sc4, Sf4, Sc5, Sf5⟩ := cf6 HS425.out
  obtain ⟨Xc0, Xf0, Xc1, Xf1, Xc2, Xf2, Xc3, Xf3, Xc4, Xf4, Xc5, Xf5⟩ := cf6 HX426.out
  have hal := (MapKept.heap_alloc w424 (.cells #[.int .i64 4, .string ⟨#[]⟩, .string ⟨#[]⟩, .string ⟨#[]⟩, .string ⟨#[]⟩, .slice none 0 0] 49)).1
  have hkE : Keeps (fun _ => False) w424 (w424.alloc (.cells #[.int .i64 4, .string ⟨#[]⟩, .string ⟨#[]⟩, .string ⟨#[]⟩, .string ⟨#[]⟩, .slice none 0 0] 49)) := (Keeps.refl _ _).alloc _
  obtain ⟨YB, hYB⟩ : ∃ q, w424.heap.size = q := ⟨_, rfl⟩
  rw [hYB] at hal
  have HS431 := Lib.hid (((hkE).block _ (lt_of_heap HS425.out) (fun x => x)).trans HS425.out)
  have HX432 := Lib.hid (((hkE).block _ (lt_of_heap HX426.out) (fun x => x)).trans HX426.out)
  have HN430 : Hid ((W.heap.size ≠ b ∧ WA.heap.size ≠ b ∧ WA.heap.size ≠ W.heap.size ∧ W.heap.size ≤ WA.heap.size ∧ b < W.heap.size) ∧ W.heap.size ≤ YB ∧ W.heap.size < YB ∧ WA.heap.size < YB ∧ b < YB) := ⟨HN.out, by
   have hz := HK428.out.size
   have l0 := lt_of_heap HS425.out
   have l1 := lt_of_heap HX426.out
   have ls := lt_of_heap HS427.out.1
   refine ⟨?_, ?_, ?_, ?_⟩ <;> omega⟩
  have HS433 := Lib.hid (HS427.out.keeps hkE (fun x => x))
  have HK434 := Lib.hid (HK428.out.trans (hkE.mono (fun _ _ x => x.elim)))
  have HY435 := Lib.hid hal
  clear hkE hal HS425 HX426 HN HS427 HK428
  go_upto_region 2 with fail
  clear Sc0 Sf0 Sc1 Sf1 Sc2 Sf2 Sc3 Sf3 Sc4 Sf4 Sc5 Sf5 Xc0 Xf0 Xc1 Xf1 Xc2 Xf2 Xc3 Xf3 Xc4 Xf4 Xc5 Xf5
  clear hYB
  generalize (w424.alloc (.cells #[.int .i64 4, .string ⟨#[]⟩, .string ⟨#[]⟩, .string ⟨#[]⟩, .string ⟨#[]⟩, .slice none 0 0] 49)) = w429 at *
  obtain ⟨Sc0, Sf0, Sc1, Sf1, Sc2, Sf2, Sc3, Sf3, Sc4, Sf4, Sc5, Sf5⟩ := cf6 HS431.out
  obtain ⟨Xc0, Xf0, Xc1, Xf1, Xc2, Xf2, Xc3, Xf3, Xc4, Xf4, Xc5, Xf5⟩ := cf6 HX432.out
  obtain ⟨Yc0, Yf0, Yc1, Yf1, Yc2, Yf2, Yc3, Yf3, Yc4, Yf4, Yc5, Yf5⟩ := cf6 HY435.out
  go_wp2_with fail
  refine (HP2.out _ HS433.out).mono ?_
  rintro e w436 ⟨rfl, hk⟩
  have HS437 := Lib.hid (((hk.out.2).block _ (lt_of_heap HS431.out) (by have := HN430.out; show ¬ _ = _; omega)).trans HS431.out)
  have HX438 := Lib.hid (((hk.out.2).block _ (lt_of_heap HX432.out) (by have := HN430.out; show ¬ _ = _; omega)).trans HX432.out)
  have HY439 := Lib.hid (((hk.out.2).block _ (lt_of_heap HY435.out) (by have := HN430.out; show ¬ _ = _; omega)).trans HY435.out)
  have HS440 := Lib.hid (hk.out.1)
  have HK441 := Lib.hid (HK434.out.trans hk.out.2)
  clear Sc0 Sf0 Sc1 Sf1 Sc2 Sf2 Sc3 Sf3 Sc4 Sf4 Sc5 Sf5 Xc0 Xf0 Xc1 Xf1 Xc2 Xf2 Xc3 Xf3 Xc4 Xf4 Xc5 Xf5 Yc0 Yf0 Yc1 Yf1 Yc2 Yf2 Yc3 Yf3 Yc4 Yf4 Yc5 Yf5
  clear hk HP2 HS431 HX432 HY435 HS433 HK434
  obtain ⟨Sc0, Sf0, Sc1, Sf1, Sc2, Sf2, Sc3, Sf3, Sc4, Sf4, Sc5, Sf5⟩ := cf6 HS437.out
  obtain ⟨Xc0, Xf0, Xc1, Xf1, Xc2, Xf2, Xc3, Xf3, Xc4, Xf4, Xc5, Xf5⟩ := cf6 HX438.out
  obtain ⟨Yc0, Yf0, Yc1, Yf1, Yc2, Yf2, Yc3, Yf3, Yc4, Yf4, Yc5, Yf5⟩ := cf6 HY439.out
  have hs0 : (w436.setCell ⟨YB, 1, none⟩ (.string ⟨a1.toArray⟩)).heap[YB]? = some (.cells #[.int .i64 4, .string ⟨a1.toArray⟩, .string ⟨#[]⟩, .string ⟨#[]⟩, .string ⟨#[]⟩, .slice none 0 0] 49) := heap_set (HY439.out) 1 (.string ⟨a1.toArray⟩)
  have hs1 : ((w436.setCell ⟨YB, 1, none⟩ (.string ⟨a1.toArray⟩)).setCell ⟨YB, 2, none⟩ (.string ⟨a2.toArray⟩)).heap[YB]? = some (.cells #[.int .i64 4, .string ⟨a1.toArray⟩, .string ⟨a2.toArray⟩, .string ⟨#[]⟩, .string ⟨#[]⟩, .slice none 0 0] 49) := heap_set (hs0) 2 (.string ⟨a2.toArray⟩)
  have hkE : Keeps (fun q => q = YB) w436 ((w436.setCell ⟨YB, 1, none⟩ (.string ⟨a1.toArray⟩)).setCell ⟨YB, 2, none⟩ (.string ⟨a2.toArray⟩)) := (Keeps.setCell (S := fun q => q = YB) (Keeps.setCell (S := fun q => q = YB) (Keeps.refl _ _) (p := ⟨YB, 1, none⟩) (fun _ => rfl) _) (p := ⟨YB, 2, none⟩) (fun _ => rfl) _)
  have HY443 := Lib.hid hs1
  have HS444 := Lib.hid (((hkE).block _ (lt_of_heap HS437.out) (by have := HN430.out; show ¬ _ = _; omega)).trans HS437.out)
  have HX445 := Lib.hid (((hkE).block _ (lt_of_heap HX438.out) (by have := HN430.out; show ¬ _ = _; omega)).trans HX438.out)
  have HS446 := Lib.hid (HS440.out.keeps hkE (by have := HN430.out; show ¬ _ = _; omega))
  have HK447 := Lib.hid (HK441.out.trans_new hkE (fun q hq e => by have := HN430.out; omega))
  clear hkE hs0 hs1 HY439 HS437 HX438 HS440 HK441
  go_upto_region 3 with fail
  clear Sc0 Sf0 Sc1 Sf1 Sc2 Sf2 Sc3 Sf3 Sc4 Sf4 Sc5 Sf5 Xc0 Xf0 Xc1 Xf1 Xc2 Xf2 Xc3 Xf3 Xc4 Xf4 Xc5 Xf5 Yc0 Yf0 Yc1 Yf1 Yc2 Yf2 Yc3 Yf3 Yc4 Yf4 Yc5 Yf5
  generalize ((w436.setCell ⟨YB, 1, none⟩ (.string ⟨a1.toArray⟩)).setCell ⟨YB, 2, none⟩ (.string ⟨a2.toArray⟩)) = w442 at *
  obtain ⟨Sc0, Sf0, Sc1, Sf1, Sc2, Sf2, Sc3, Sf3, Sc4, Sf4, Sc5, Sf5⟩ := cf6 HS444.out
  obtain ⟨Xc0, Xf0, Xc1, Xf1, Xc2, Xf2, Xc3, Xf3, Xc4, Xf4, Xc5, Xf5⟩ := cf6 HX445.out
  obtain ⟨Yc0, Yf0, Yc1, Yf1, Yc2, Yf2, Yc3, Yf3, Yc4, Yf4, Yc5, Yf5⟩ := cf6 HY443.out
  go_upto_region 8 with fail
  clear Sc0 Sf0 Sc1 Sf1 Sc2 Sf2 Sc3 Sf3 Sc4 Sf4 Sc5 Sf5 Xc0 Xf0 Xc1 Xf1 Xc2 Xf2 Xc3 Xf3 Xc4 Xf4 Xc5 Xf5 Yc0 Yf0 Yc1 Yf1 Yc2 Yf2 Yc3 Yf3 Yc4 Yf4 Yc5 Yf5
  clear HPB HPL HPS
  go_wp2_with fail
  go_loopg [7] 0 (fun g t wx => g = 0 ∧ t = .int .i64 0 ∧ wx = w442)
  case atStart => exact ⟨rfl, rfl, rfl⟩
  case round =>
   obtain ⟨rfl, rfl, rfl⟩ := hrel
   obtain ⟨Sc0, Sf0, Sc1, Sf1, Sc2, Sf2, Sc3, Sf3, Sc4, Sf4, Sc5, Sf5⟩ := cf6 HS444.out
   obtain ⟨Xc0, Xf0, Xc1, Xf1, Xc2, Xf2, Xc3, Xf3, Xc4, Xf4, Xc5, Xf5⟩ := cf6 HX445.out
   obtain ⟨Yc0, Yf0, Yc1, Yf1, Yc2, Yf2, Yc3, Yf3, Yc4, Yf4, Yc5, Yf5⟩ := cf6 HY443.out
   obtain ⟨hs0, hkE⟩ := sx6 HX445.out (.int .i64 4) (.string ⟨a1.toArray⟩) (.string ⟨a2.toArray⟩) (.string ⟨#[]⟩) (.string ⟨#[]⟩) (.slice none 0 0)
   have HX448 := Lib.hid hs0
   have HS449 := Lib.hid (((hkE).block _ (lt_of_heap HS444.out) (by have := HN430.out; show ¬ _ = _; omega)).trans HS444.out)
   have HY450 := Lib.hid (((hkE).block _ (lt_of_heap HY443.out) (by have := HN430.out; show ¬ _ = _; omega)).trans HY443.out)
   have HS451 := Lib.hid (HS446.out.keeps hkE (by have := HN430.out; show ¬ _ = _; omega))
   have HK452 := Lib.hid (HK447.out.trans_new hkE (fun q hq e => by have := HN430.out; omega))
   clear hkE hs0 HX445 HS444 HY443 HS446 HK447
   go_wp2_with fail
   clear Sc0 Sf0 Sc1 Sf1 Sc2 Sf2 Sc3 Sf3 Sc4 Sf4 Sc5 Sf5 Xc0 Xf0 Xc1 Xf1 Xc2 Xf2 Xc3 Xf3 Xc4 Xf4 Xc5 Xf5 Yc0 Yf0 Yc1 Yf1 Yc2 Yf2 Yc3 Yf3 Yc4 Yf4 Yc5 Yf5
   generalize ((((((wr.setCell ⟨WA.heap.size, 0, none⟩ (.int .i64 4)).setCell ⟨WA.heap.size, 1, none⟩ (.string ⟨a1.toArray⟩)).setCell ⟨WA.heap.size, 2, none⟩ (.string ⟨a2.toArray⟩)).setCell ⟨WA.heap.size, 3, none⟩ (.string ⟨#[]⟩)).setCell ⟨WA.heap.size, 4, none⟩ (.string ⟨#[]⟩)).setCell ⟨WA.heap.size, 5, none⟩ (.slice none 0 0)) = WE at *
   obtain ⟨Xc0, Xf0, Xc1, Xf1, Xc2, Xf2, Xc3, Xf3, Xc4, Xf4, Xc5, Xf5⟩ := cf6 HX448.out
   refine bodyPost_ret (v := .agg #[.int .i64 4, .string ⟨a1.toArray⟩, .string ⟨a2.toArray⟩, .string ⟨#[]⟩, .string ⟨#[]⟩, .slice none 0 0]) (by simp [results, Tryz.results15, go_sem, *]) rfl ?_
   exact ⟨.slice none 0 0, rfl, HS451.out, HK452.out, RowAt.nil _ _⟩
 ·skip
  obtain ⟨⟨⟨c1, c2⟩, x3⟩, e3⟩ : ∃ q, rolD x2 s = q := ⟨_, rfl⟩
  have HP3 : Hid (∀ W, StB W 30 b x2 → Calls Tryz.prog 11 #[.pointer (some ⟨b, 0, none⟩), ShpV s] W (DrTo W 30 b (.agg #[.string ⟨c1.toArray⟩, .string ⟨c2.toArray⟩]) x3)) := fun W h => rrole_at hf e3 W h
  have HE : Hid (askD x s = ((5, (a1, a2), (c1, c2), []), x3)) := by
   show _ = _
   unfold askD
   simp [e1, e2, e3, noRol]
  rw [HE.out]
  clear HE e1 e2 e3 hf hfn 
  unfold ShpV encStr8 at *
  obtain ⟨Sc0, Sf0, Sc1, Sf1, Sc2, Sf2, Sc3, Sf3, Sc4, Sf4, Sc5, Sf5⟩ := cf6 HS0.out
  obtain ⟨Xc0, Xf0, Xc1, Xf1, Xc2, Xf2, Xc3, Xf3, Xc4, Xf4, Xc5, Xf5⟩ := cf6 HX0.out
  go_enter Tryz.func15, Tryz.ntmps15
  go_wp2_with fail
  refine (HP1.out _ HST0.out).mono ?_
  rintro e w453 ⟨rfl, hk⟩
  have HS454 := Lib.hid (((hk.out.2).block _ (lt_of_heap HS0.out) (by have := HN.out; show ¬ _ = _; omega)).trans HS0.out)
  have HX455 := Lib.hid (((hk.out.2).block _ (lt_of_heap HX0.out) (by have := HN.out; show ¬ _ = _; omega)).trans HX0.out)
  have HS456 := Lib.hid (hk.out.1)
  have HK457 := Lib.hid ((HK0.out.mono (fun _ _ x => x.elim)).trans hk.out.2)
  clear Sc0 Sf0 Sc1 Sf1 Sc2 Sf2 Sc3 Sf3 Sc4 Sf4 Sc5 Sf5 Xc0 Xf0 Xc1 Xf1 Xc2 Xf2 Xc3 Xf3 Xc4 Xf4 Xc5 Xf5
  clear hk HP1 HS0 HX0 HST0 HK0
  clear hWA hWB
  obtain ⟨Sc0, Sf0, Sc1, Sf1, Sc2, Sf2, Sc3, Sf3, Sc4, Sf4, Sc5, Sf5⟩ := cf6 HS454.out
  obtain ⟨Xc0, Xf0, Xc1, Xf1, Xc2, Xf2, Xc3, Xf3, Xc4, Xf4, Xc5, Xf5⟩ := cf6 HX455.out
  have hal := (MapKept.heap_alloc w453 (.cells #[.int .i64 5, .string ⟨#[]⟩, .string ⟨#[]⟩, .string ⟨#[]⟩, .string ⟨#[]⟩, .slice none 0 0] 49)).1
  have hkE : Keeps (fun _ => False) w453 (w453.alloc (.cells #[.int .i64 5, .string ⟨#[]⟩, .string ⟨#[]⟩, .string ⟨#[]⟩, .string ⟨#[]⟩, .slice none 0 0] 49)) := (Keeps.refl _ _).alloc _
  obtain ⟨YB, hYB⟩ : ∃ q, w453.heap.size = q := ⟨_, rfl⟩
  rw [hYB] at hal
  have HS460 := Lib.hid (((hkE).block _ (lt_of_heap HS454.out) (fun x => x)).trans HS454.out)
  have HX461 := Lib.hid (((hkE).block _ (lt_of_heap HX455.out) (fun x => x)).trans HX455.out)
  have HN459 : Hid ((W.heap.size ≠ b ∧ WA.heap.size ≠ b ∧ WA.heap.size ≠ W.heap.size ∧ W.heap.size ≤ WA.heap.size ∧ b < W.heap.size) ∧ W.heap.size ≤ YB ∧ W.heap.size < YB ∧ WA.heap.size < YB ∧ b < YB) := ⟨HN.out, by
   have hz := HK457.out.size
   have l0 := lt_of_heap HS454.out
   have l1 := lt_of_heap HX455.out
   have ls := lt_of_heap HS456.out.1
   refine ⟨?_, ?_, ?_, ?_⟩ <;> omega⟩
  have HS462 := Lib.hid (HS456.out.keeps hkE (fun x => x))
  have HK463 := Lib.hid (HK457.out.trans (hkE.mono (fun _ _ x => x.elim)))
  have HY464 := Lib.hid hal
  clear hkE hal HS454 HX455 HN HS456 HK457
  go_upto_region 2 with fail
  clear Sc0 Sf0 Sc1 Sf1 Sc2 Sf2 Sc3 Sf3 Sc4 Sf4 Sc5 Sf5 Xc0 Xf0 Xc1 Xf1 Xc2 Xf2 Xc3 Xf3 Xc4 Xf4 Xc5 Xf5
  clear hYB
  generalize (w453.alloc (.cells #[.int .i64 5, .string ⟨#[]⟩, .string ⟨#[]⟩, .string ⟨#[]⟩, .string ⟨#[]⟩, .slice none 0 0] 49)) = w458 at *
  obtain ⟨Sc0, Sf0, Sc1, Sf1, Sc2, Sf2, Sc3, Sf3, Sc4, Sf4, Sc5, Sf5⟩ := cf6 HS460.out
  obtain ⟨Xc0, Xf0, Xc1, Xf1, Xc2, Xf2, Xc3, Xf3, Xc4, Xf4, Xc5, Xf5⟩ := cf6 HX461.out
  obtain ⟨Yc0, Yf0, Yc1, Yf1, Yc2, Yf2, Yc3, Yf3, Yc4, Yf4, Yc5, Yf5⟩ := cf6 HY464.out
  go_wp2_with fail
  refine (HP2.out _ HS462.out).mono ?_
  rintro e w465 ⟨rfl, hk⟩
  have HS466 := Lib.hid (((hk.out.2).block _ (lt_of_heap HS460.out) (by have := HN459.out; show ¬ _ = _; omega)).trans HS460.out)
  have HX467 := Lib.hid (((hk.out.2).block _ (lt_of_heap HX461.out) (by have := HN459.out; show ¬ _ = _; omega)).trans HX461.out)
  have HY468 := Lib.hid (((hk.out.2).block _ (lt_of_heap HY464.out) (by have := HN459.out; show ¬ _ = _; omega)).trans HY464.out)
  have HS469 := Lib.hid (hk.out.1)
  have HK470 := Lib.hid (HK463.out.trans hk.out.2)
  clear Sc0 Sf0 Sc1 Sf1 Sc2 Sf2 Sc3 Sf3 Sc4 Sf4 Sc5 Sf5 Xc0 Xf0 Xc1 Xf1 Xc2 Xf2 Xc3 Xf3 Xc4 Xf4 Xc5 Xf5 Yc0 Yf0 Yc1 Yf1 Yc2 Yf2 Yc3 Yf3 Yc4 Yf4 Yc5 Yf5
  clear hk HP2 HS460 HX461 HY464 HS462 HK463
  obtain ⟨Sc0, Sf0, Sc1, Sf1, Sc2, Sf2, Sc3, Sf3, Sc4, Sf4, Sc5, Sf5⟩ := cf6 HS466.out
  obtain ⟨Xc0, Xf0, Xc1, Xf1, Xc2, Xf2, Xc3, Xf3, Xc4, Xf4, Xc5, Xf5⟩ := cf6 HX467.out
  obtain ⟨Yc0, Yf0, Yc1, Yf1, Yc2, Yf2, Yc3, Yf3, Yc4, Yf4, Yc5, Yf5⟩ := cf6 HY468.out
  have hs0 : (w465.setCell ⟨YB, 1, none⟩ (.string ⟨a1.toArray⟩)).heap[YB]? = some (.cells #[.int .i64 5, .string ⟨a1.toArray⟩, .string ⟨#[]⟩, .string ⟨#[]⟩, .string ⟨#[]⟩, .slice none 0 0] 49) := heap_set (HY468.out) 1 (.string ⟨a1.toArray⟩)
  have hs1 : ((w465.setCell ⟨YB, 1, none⟩ (.string ⟨a1.toArray⟩)).setCell ⟨YB, 2, none⟩ (.string ⟨a2.toArray⟩)).heap[YB]? = some (.cells #[.int .i64 5, .string ⟨a1.toArray⟩, .string ⟨a2.toArray⟩, .string ⟨#[]⟩, .string ⟨#[]⟩, .slice none 0 0] 49) := heap_set (hs0) 2 (.string ⟨a2.toArray⟩)
  have hkE : Keeps (fun q => q = YB) w465 ((w465.setCell ⟨YB, 1, none⟩ (.string ⟨a1.toArray⟩)).setCell ⟨YB, 2, none⟩ (.string ⟨a2.toArray⟩)) := (Keeps.setCell (S := fun q => q = YB) (Keeps.setCell (S := fun q => q = YB) (Keeps.refl _ _) (p := ⟨YB, 1, none⟩) (fun _ => rfl) _) (p := ⟨YB, 2, none⟩) (fun _ => rfl) _)
  have HY472 := Lib.hid hs1
  have HS473 := Lib.hid (((hkE).block _ (lt_of_heap HS466.out) (by have := HN459.out; show ¬ _ = _; omega)).trans HS466.out)
  have HX474 := Lib.hid (((hkE).block _ (lt_of_heap HX467.out) (by have := HN459.out; show ¬ _ = _; omega)).trans HX467.out)
  have HS475 := Lib.hid (HS469.out.keeps hkE (by have := HN459.out; show ¬ _ = _; omega))
  have HK476 := Lib.hid (HK470.out.trans_new hkE (fun q hq e => by have := HN459.out; omega))
  clear hkE hs0 hs1 HY468 HS466 HX467 HS469 HK470
  go_upto_region 3 with fail
  clear Sc0 Sf0 Sc1 Sf1 Sc2 Sf2 Sc3 Sf3 Sc4 Sf4 Sc5 Sf5 Xc0 Xf0 Xc1 Xf1 Xc2 Xf2 Xc3 Xf3 Xc4 Xf4 Xc5 Xf5 Yc0 Yf0 Yc1 Yf1 Yc2 Yf2 Yc3 Yf3 Yc4 Yf4 Yc5 Yf5
  generalize ((w465.setCell ⟨YB, 1, none⟩ (.string ⟨a1.toArray⟩)).setCell ⟨YB, 2, none⟩ (.string ⟨a2.toArray⟩)) = w471 at *
  obtain ⟨Sc0, Sf0, Sc1, Sf1, Sc2, Sf2, Sc3, Sf3, Sc4, Sf4, Sc5, Sf5⟩ := cf6 HS473.out
  obtain ⟨Xc0, Xf0, Xc1, Xf1, Xc2, Xf2, Xc3, Xf3, Xc4, Xf4, Xc5, Xf5⟩ := cf6 HX474.out
  obtain ⟨Yc0, Yf0, Yc1, Yf1, Yc2, Yf2, Yc3, Yf3, Yc4, Yf4, Yc5, Yf5⟩ := cf6 HY472.out
  go_upto_region 8 with fail
  clear Sc0 Sf0 Sc1 Sf1 Sc2 Sf2 Sc3 Sf3 Sc4 Sf4 Sc5 Sf5 Xc0 Xf0 Xc1 Xf1 Xc2 Xf2 Xc3 Xf3 Xc4 Xf4 Xc5 Xf5 Yc0 Yf0 Yc1 Yf1 Yc2 Yf2 Yc3 Yf3 Yc4 Yf4 Yc5 Yf5
  clear HPB HPL HPS
  go_wp2_with fail
  go_loopg [7] 0 (fun g t wx => g = 0 ∧ t = .int .i64 0 ∧ wx = w471)
  case atStart => exact ⟨rfl, rfl, rfl⟩
  case round =>
   obtain ⟨rfl, rfl, rfl⟩ := hrel
   obtain ⟨Sc0, Sf0, Sc1, Sf1, Sc2, Sf2, Sc3, Sf3, Sc4, Sf4, Sc5, Sf5⟩ := cf6 HS473.out
   obtain ⟨Xc0, Xf0, Xc1, Xf1, Xc2, Xf2, Xc3, Xf3, Xc4, Xf4, Xc5, Xf5⟩ := cf6 HX474.out
   obtain ⟨Yc0, Yf0, Yc1, Yf1, Yc2, Yf2, Yc3, Yf3, Yc4, Yf4, Yc5, Yf5⟩ := cf6 HY472.out
   go_upto_region 13 with fail
   go_wp2_with fail
   refine (HP3.out _ HS475.out).mono ?_
   rintro e w477 ⟨rfl, hk⟩
   have HS478 := Lib.hid (((hk.out.2).block _ (lt_of_heap HS473.out) (by have := HN459.out; show ¬ _ = _; omega)).trans HS473.out)
   have HX479 := Lib.hid (((hk.out.2).block _ (lt_of_heap HX474.out) (by have := HN459.out; show ¬ _ = _; omega)).trans HX474.out)
   have HY480 := Lib.hid (((hk.out.2).block _ (lt_of_heap HY472.out) (by have := HN459.out; show ¬ _ = _; omega)).trans HY472.out)
   have HS481 := Lib.hid (hk.out.1)
   have HK482 := Lib.hid (HK476.out.trans hk.out.2)
   clear Sc0 Sf0 Sc1 Sf1 Sc2 Sf2 Sc3 Sf3 Sc4 Sf4 Sc5 Sf5 Xc0 Xf0 Xc1 Xf1 Xc2 Xf2 Xc3 Xf3 Xc4 Xf4 Xc5 Xf5 Yc0 Yf0 Yc1 Yf1 Yc2 Yf2 Yc3 Yf3 Yc4 Yf4 Yc5 Yf5
   clear hk HP3 HS473 HX474 HY472 HS475 HK476
   obtain ⟨Sc0, Sf0, Sc1, Sf1, Sc2, Sf2, Sc3, Sf3, Sc4, Sf4, Sc5, Sf5⟩ := cf6 HS478.out
   obtain ⟨Xc0, Xf0, Xc1, Xf1, Xc2, Xf2, Xc3, Xf3, Xc4, Xf4, Xc5, Xf5⟩ := cf6 HX479.out
   obtain ⟨Yc0, Yf0, Yc1, Yf1, Yc2, Yf2, Yc3, Yf3, Yc4, Yf4, Yc5, Yf5⟩ := cf6 HY480.out
   have hs0 : (w477.setCell ⟨YB, 3, none⟩ (.string ⟨c1.toArray⟩)).heap[YB]? = some (.cells #[.int .i64 5, .string ⟨a1.toArray⟩, .string ⟨a2.toArray⟩, .string ⟨c1.toArray⟩, .string ⟨#[]⟩, .slice none 0 0] 49) := heap_set (HY480.out) 3 (.string ⟨c1.toArray⟩)
   have hs1 : ((w477.setCell ⟨YB, 3, none⟩ (.string ⟨c1.toArray⟩)).setCell ⟨YB, 4, none⟩ (.string ⟨c2.toArray⟩)).heap[YB]? = some (.cells #[.int .i64 5, .string ⟨a1.toArray⟩, .string ⟨a2.toArray⟩, .string ⟨c1.toArray⟩, .string ⟨c2.toArray⟩, .slice none 0 0] 49) := heap_set (hs0) 4 (.string ⟨c2.toArray⟩)
   have hkE : Keeps (fun q => q = YB) w477 ((w477.setCell ⟨YB, 3, none⟩ (.string ⟨c1.toArray⟩)).setCell ⟨YB, 4, none⟩ (.string ⟨c2.toArray⟩)) := (Keeps.setCell (S := fun q => q = YB) (Keeps.setCell (S := fun q => q = YB) (Keeps.refl _ _) (p := ⟨YB, 3, none⟩) (fun _ => rfl) _) (p := ⟨YB, 4, none⟩) (fun _ => rfl) _)
   have HY484 := Lib.hid hs1
   have HS485 := Lib.hid (((hkE).block _ (lt_of_heap HS478.out) (by have := HN459.out; show ¬ _ = _; omega)).trans HS478.out)
   have HX486 := Lib.hid (((hkE).block _ (lt_of_heap HX479.out) (by have := HN459.out; show ¬ _ = _; omega)).trans HX479.out)
   have HS487 := Lib.hid (HS481.out.keeps hkE (by have := HN459.out; show ¬ _ = _; omega))
   have HK488 := Lib.hid (HK482.out.trans_new hkE (fun q hq e => by have := HN459.out; omega))
   clear hkE hs0 hs1 HY480 HS478 HX479 HS481 HK482
   go_upto_region 14 with fail
   clear Sc0 Sf0 Sc1 Sf1 Sc2 Sf2 Sc3 Sf3 Sc4 Sf4 Sc5 Sf5 Xc0 Xf0 Xc1 Xf1 Xc2 Xf2 Xc3 Xf3 Xc4 Xf4 Xc5 Xf5 Yc0 Yf0 Yc1 Yf1 Yc2 Yf2 Yc3 Yf3 Yc4 Yf4 Yc5 Yf5
   generalize ((w477.setCell ⟨YB, 3, none⟩ (.string ⟨c1.toArray⟩)).setCell ⟨YB, 4, none⟩ (.string ⟨c2.toArray⟩)) = w483 at *
   obtain ⟨Sc0, Sf0, Sc1, Sf1, Sc2, Sf2, Sc3, Sf3, Sc4, Sf4, Sc5, Sf5⟩ := cf6 HS485.out
   obtain ⟨Xc0, Xf0, Xc1, Xf1, Xc2, Xf2, Xc3, Xf3, Xc4, Xf4, Xc5, Xf5⟩ := cf6 HX486.out
   obtain ⟨Yc0, Yf0, Yc1, Yf1, Yc2, Yf2, Yc3, Yf3, Yc4, Yf4, Yc5, Yf5⟩ := cf6 HY484.out
   obtain ⟨hs0, hkE⟩ := sx6 HX486.out (.int .i64 5) (.string ⟨a1.toArray⟩) (.string ⟨a2.toArray⟩) (.string ⟨c1.toArray⟩) (.string ⟨c2.toArray⟩) (.slice none 0 0)
   have HX489 := Lib.hid hs0
   have HS490 := Lib.hid (((hkE).block _ (lt_of_heap HS485.out) (by have := HN459.out; show ¬ _ = _; omega)).trans HS485.out)
   have HY491 := Lib.hid (((hkE).block _ (lt_of_heap HY484.out) (by have := HN459.out; show ¬ _ = _; omega)).trans HY484.out)
   have HS492 := Lib.hid (HS487.out.keeps hkE (by have := HN459.out; show ¬ _ = _; omega))
   have HK493 := Lib.hid (HK488.out.trans_new hkE (fun q hq e => by have := HN459.out; omega))
   clear hkE hs0 HX486 HS485 HY484 HS487 HK488
   go_wp2_with fail
   clear Sc0 Sf0 Sc1 Sf1 Sc2 Sf2 Sc3 Sf3 Sc4 Sf4 Sc5 Sf5 Xc0 Xf0 Xc1 Xf1 Xc2 Xf2 Xc3 Xf3 Xc4 Xf4 Xc5 Xf5 Yc0 Yf0 Yc1 Yf1 Yc2 Yf2 Yc3 Yf3 Yc4 Yf4 Yc5 Yf5
   generalize ((((((w483.setCell ⟨WA.heap.size, 0, none⟩ (.int .i64 5)).setCell ⟨WA.heap.size, 1, none⟩ (.string ⟨a1.toArray⟩)).setCell ⟨WA.heap.size, 2, none⟩ (.string ⟨a2.toArray⟩)).setCell ⟨WA.heap.size, 3, none⟩ (.string ⟨c1.toArray⟩)).setCell ⟨WA.heap.size, 4, none⟩ (.string ⟨c2.toArray⟩)).setCell ⟨WA.heap.size, 5, none⟩ (.slice none 0 0)) = WE at *
   obtain ⟨Xc0, Xf0, Xc1, Xf1, Xc2, Xf2, Xc3, Xf3, Xc4, Xf4, Xc5, Xf5⟩ := cf6 HX489.out
   refine bodyPost_ret (v := .agg #[.int .i64 5, .string ⟨a1.toArray⟩, .string ⟨a2.toArray⟩, .string ⟨c1.toArray⟩, .string ⟨c2.toArray⟩, .slice none 0 0]) (by simp [results, Tryz.results15, go_sem, *]) rfl ?_
   exact ⟨.slice none 0 0, rfl, HS492.out, HK493.out, RowAt.nil _ _⟩
 ·skip
  obtain ⟨⟨⟨c1, c2⟩, x3⟩, e3⟩ : ∃ q, rolD x2 s = q := ⟨_, rfl⟩
  have HP3 : Hid (∀ W, StB W 30 b x2 → Calls Tryz.prog 11 #[.pointer (some ⟨b, 0, none⟩), ShpV s] W (DrTo W 30 b (.agg #[.string ⟨c1.toArray⟩, .string ⟨c2.toArray⟩]) x3)) := fun W h => rrole_at hf e3 W h
  have HE : Hid (askD x s = ((6, (a1, a2), (c1, c2), []), x3)) := by
   show _ = _
   unfold askD
   simp [e1, e2, e3, noRol]
  rw [HE.out]
  clear HE e1 e2 e3 hf hfn 
  unfold ShpV encStr8 at *
  obtain ⟨Sc0, Sf0, Sc1, Sf1, Sc2, Sf2, Sc3, Sf3, Sc4, Sf4, Sc5, Sf5⟩ := cf6 HS0.out
  obtain ⟨Xc0, Xf0, Xc1, Xf1, Xc2, Xf2, Xc3, Xf3, Xc4, Xf4, Xc5, Xf5⟩ := cf6 HX0.out
  go_enter Tryz.func15, Tryz.ntmps15
  go_wp2_with fail
  refine (HP1.out _ HST0.out).mono ?_
  rintro e w494 ⟨rfl, hk⟩
  have HS495 := Lib.hid (((hk.out.2).block _ (lt_of_heap HS0.out) (by have := HN.out; show ¬ _ = _; omega)).trans HS0.out)
  have HX496 := Lib.hid (((hk.out.2).block _ (lt_of_heap HX0.out) (by have := HN.out; show ¬ _ = _; omega)).trans HX0.out)
  have HS497 := Lib.hid (hk.out.1)
  have HK498 := Lib.hid ((HK0.out.mono (fun _ _ x => x.elim)).trans hk.out.2)
  clear Sc0 Sf0 Sc1 Sf1 Sc2 Sf2 Sc3 Sf3 Sc4 Sf4 Sc5 Sf5 Xc0 Xf0 Xc1 Xf1 Xc2 Xf2 Xc3 Xf3 Xc4 Xf4 Xc5 Xf5
  clear hk HP1 HS0 HX0 HST0 HK0
  clear hWA hWB
  obtain ⟨Sc0, Sf0, Sc1, Sf1, Sc2, Sf2, Sc3, Sf3, Sc4, Sf4, Sc5, Sf5⟩ := cf6 HS495.out
  obtain ⟨Xc0, Xf0, Xc1, Xf1, Xc2, Xf2, Xc3, Xf3, Xc4, Xf4, Xc5, Xf5⟩ := cf6 HX496.out
  have hal := (MapKept.heap_alloc w494 (.cells #[.int .i64 6, .string ⟨#[]⟩, .string ⟨#[]⟩, .string ⟨#[]⟩, .string ⟨#[]⟩, .slice none 0 0] 49)).1
  have hkE : Keeps (fun _ => False) w494 (w494.alloc (.cells #[.int .i64 6, .string ⟨#[]⟩, .string ⟨#[]⟩, .string ⟨#[]⟩, .string ⟨#[]⟩, .slice none 0 0] 49)) := (Keeps.refl _ _).alloc _
  obtain ⟨YB, hYB⟩ : ∃ q, w494.heap.size = q := ⟨_, rfl⟩
  rw [hYB] at hal
  have HS501 := Lib.hid (((hkE).block _ (lt_of_heap HS495.out) (fun x => x)).trans HS495.out)
  have HX502 := Lib.hid (((hkE).block _ (lt_of_heap HX496.out) (fun x => x)).trans HX496.out)
  have HN500 : Hid ((W.heap.size ≠ b ∧ WA.heap.size ≠ b ∧ WA.heap.size ≠ W.heap.size ∧ W.heap.size ≤ WA.heap.size ∧ b < W.heap.size) ∧ W.heap.size ≤ YB ∧ W.heap.size < YB ∧ WA.heap.size < YB ∧ b < YB) := ⟨HN.out, by
   have hz := HK498.out.size
   have l0 := lt_of_heap HS495.out
   have l1 := lt_of_heap HX496.out
   have ls := lt_of_heap HS497.out.1
   refine ⟨?_, ?_, ?_, ?_⟩ <;> omega⟩
  have HS503 := Lib.hid (HS497.out.keeps hkE (fun x => x))
  have HK504 := Lib.hid (HK498.out.trans (hkE.mono (fun _ _ x => x.elim)))
  have HY505 := Lib.hid hal
  clear hkE hal HS495 HX496 HN HS497 HK498
  go_upto_region 2 with fail
  clear Sc0 Sf0 Sc1 Sf1 Sc2 Sf2 Sc3 Sf3 Sc4 Sf4 Sc5 Sf5 Xc0 Xf0 Xc1 Xf1 Xc2 Xf2 Xc3 Xf3 Xc4 Xf4 Xc5 Xf5
  clear hYB
  generalize (w494.alloc (.cells #[.int .i64 6, .string ⟨#[]⟩, .string ⟨#[]⟩, .string ⟨#[]⟩, .string ⟨#[]⟩, .slice none 0 0] 49)) = w499 at *
  obtain ⟨Sc0, Sf0, Sc1, Sf1, Sc2, Sf2, Sc3, Sf3, Sc4, Sf4, Sc5, Sf5⟩ := cf6 HS501.out
  obtain ⟨Xc0, Xf0, Xc1, Xf1, Xc2, Xf2, Xc3, Xf3, Xc4, Xf4, Xc5, Xf5⟩ := cf6 HX502.out
  obtain ⟨Yc0, Yf0, Yc1, Yf1, Yc2, Yf2, Yc3, Yf3, Yc4, Yf4, Yc5, Yf5⟩ := cf6 HY505.out
  go_wp2_with fail
  refine (HP2.out _ HS503.out).mono ?_
  rintro e w506 ⟨rfl, hk⟩
  have HS507 := Lib.hid (((hk.out.2).block _ (lt_of_heap HS501.out) (by have := HN500.out; show ¬ _ = _; omega)).trans HS501.out)
  have HX508 := Lib.hid (((hk.out.2).block _ (lt_of_heap HX502.out) (by have := HN500.out; show ¬ _ = _; omega)).trans HX502.out)
  have HY509 := Lib.hid (((hk.out.2).block _ (lt_of_heap HY505.out) (by have := HN500.out; show ¬ _ = _; omega)).trans HY505.out)
  have HS510 := Lib.hid (hk.out.1)
  have HK511 := Lib.hid (HK504.out.trans hk.out.2)
  clear Sc0 Sf0 Sc1 Sf1 Sc2 Sf2 Sc3 Sf3 Sc4 Sf4 Sc5 Sf5 Xc0 Xf0 Xc1 Xf1 Xc2 Xf2 Xc3 Xf3 Xc4 Xf4 Xc5 Xf5 Yc0 Yf0 Yc1 Yf1 Yc2 Yf2 Yc3 Yf3 Yc4 Yf4 Yc5 Yf5
  clear hk HP2 HS501 HX502 HY505 HS503 HK504
  obtain ⟨Sc0, Sf0, Sc1, Sf1, Sc2, Sf2, Sc3, Sf3, Sc4, Sf4, Sc5, Sf5⟩ := cf6 HS507.out
  obtain ⟨Xc0, Xf0, Xc1, Xf1, Xc2, Xf2, Xc3, Xf3, Xc4, Xf4, Xc5, Xf5⟩ := cf6 HX508.out
  obtain ⟨Yc0, Yf0, Yc1, Yf1, Yc2, Yf2, Yc3, Yf3, Yc4, Yf4, Yc5, Yf5⟩ := cf6 HY509.out
  have hs0 : (w506.setCell ⟨YB, 1, none⟩ (.string ⟨a1.toArray⟩)).heap[YB]? = some (.cells #[.int .i64 6, .string ⟨a1.toArray⟩, .string ⟨#[]⟩, .string ⟨#[]⟩, .string ⟨#[]⟩, .slice none 0 0] 49) := heap_set (HY509.out) 1 (.string ⟨a1.toArray⟩)
  have hs1 : ((w506.setCell ⟨YB, 1, none⟩ (.string ⟨a1.toArray⟩)).setCell ⟨YB, 2, none⟩ (.string ⟨a2.toArray⟩)).heap[YB]? = some (.cells #[.int .i64 6, .string ⟨a1.toArray⟩, .string ⟨a2.toArray⟩, .string ⟨#[]⟩, .string ⟨#[]⟩, .slice none 0 0] 49) := heap_set (hs0) 2 (.string ⟨a2.toArray⟩)
  have hkE : Keeps (fun q => q = YB) w506 ((w506.setCell ⟨YB, 1, none⟩ (.string ⟨a1.toArray⟩)).setCell ⟨YB, 2, none⟩ (.string ⟨a2.toArray⟩)) := (Keeps.setCell (S := fun q => q = YB) (Keeps.setCell (S := fun q => q = YB) (Keeps.refl _ _) (p := ⟨YB, 1, none⟩) (fun _ => rfl) _) (p := ⟨YB, 2, none⟩) (fun _ => rfl) _)
  have HY513 := Lib.hid hs1
  have HS514 := Lib.hid (((hkE).block _ (lt_of_heap HS507.out) (by have := HN500.out; show ¬ _ = _; omega)).trans HS507.out)
  have HX515 := Lib.hid (((hkE).block _ (lt_of_heap HX508.out) (by have := HN500.out; show ¬ _ = _; omega)).trans HX508.out)
  have HS516 := Lib.hid (HS510.out.keeps hkE (by have := HN500.out; show ¬ _ = _; omega))
  have HK517 := Lib.hid (HK511.out.trans_new hkE (fun q hq e => by have := HN500.out; omega))
  clear hkE hs0 hs1 HY509 HS507 HX508 HS510 HK511
  go_upto_region 3 with fail
  clear Sc0 Sf0 Sc1 Sf1 Sc2 Sf2 Sc3 Sf3 Sc4 Sf4 Sc5 Sf5 Xc0 Xf0 Xc1 Xf1 Xc2 Xf2 Xc3 Xf3 Xc4 Xf4 Xc5 Xf5 Yc0 Yf0 Yc1 Yf1 Yc2 Yf2 Yc3 Yf3 Yc4 Yf4 Yc5 Yf5
  generalize ((w506.setCell ⟨YB, 1, none⟩ (.string ⟨a1.toArray⟩)).setCell ⟨YB, 2, none⟩ (.string ⟨a2.toArray⟩)) = w512 at *
  obtain ⟨Sc0, Sf0, Sc1, Sf1, Sc2, Sf2, Sc3, Sf3, Sc4, Sf4, Sc5, Sf5⟩ := cf6 HS514.out
  obtain ⟨Xc0, Xf0, Xc1, Xf1, Xc2, Xf2, Xc3, Xf3, Xc4, Xf4, Xc5, Xf5⟩ := cf6 HX515.out
  obtain ⟨Yc0, Yf0, Yc1, Yf1, Yc2, Yf2, Yc3, Yf3, Yc4, Yf4, Yc5, Yf5⟩ := cf6 HY513.out
  go_upto_region 8 with fail
  clear Sc0 Sf0 Sc1 Sf1 Sc2 Sf2 Sc3 Sf3 Sc4 Sf4 Sc5 Sf5 Xc0 Xf0 Xc1 Xf1 Xc2 Xf2 Xc3 Xf3 Xc4 Xf4 Xc5 Xf5 Yc0 Yf0 Yc1 Yf1 Yc2 Yf2 Yc3 Yf3 Yc4 Yf4 Yc5 Yf5
  clear HPB HPL HPS
  go_wp2_with fail
  go_loopg [7] 0 (fun g t wx => g = 0 ∧ t = .int .i64 0 ∧ wx = w512)
  case atStart => exact ⟨rfl, rfl, rfl⟩
  case round =>
   obtain ⟨rfl, rfl, rfl⟩ := hrel
   obtain ⟨Sc0, Sf0, Sc1, Sf1, Sc2, Sf2, Sc3, Sf3, Sc4, Sf4, Sc5, Sf5⟩ := cf6 HS514.out
   obtain ⟨Xc0, Xf0, Xc1, Xf1, Xc2, Xf2, Xc3, Xf3, Xc4, Xf4, Xc5, Xf5⟩ := cf6 HX515.out
   obtain ⟨Yc0, Yf0, Yc1, Yf1, Yc2, Yf2, Yc3, Yf3, Yc4, Yf4, Yc5, Yf5⟩ := cf6 HY513.out
   go_upto_region 13 with fail
   go_wp2_with fail
   refine (HP3.out _ HS516.out).mono ?_
   rintro e w518 ⟨rfl, hk⟩
   have HS519 := Lib.hid (((hk.out.2).block _ (lt_of_heap HS514.out) (by have := HN500.out; show ¬ _ = _; omega)).trans HS514.out)
   have HX520 := Lib.hid (((hk.out.2).block _ (lt_of_heap HX515.out) (by have := HN500.out; show ¬ _ = _; omega)).trans HX515.out)
   have HY521 := Lib.hid (((hk.out.2).block _ (lt_of_heap HY513.out) (by have := HN500.out; show ¬ _ = _; omega)).trans HY513.out)
   have HS522 := Lib.hid (hk.out.1)
   have HK523 := Lib.hid (HK517.out.trans hk.out.2)
   clear Sc0 Sf0 Sc1 Sf1 Sc2 Sf2 Sc3 Sf3 Sc4 Sf4 Sc5 Sf5 Xc0 Xf0 Xc1 Xf1 Xc2 Xf2 Xc3 Xf3 Xc4 Xf4 Xc5 Xf5 Yc0 Yf0 Yc1 Yf1 Yc2 Yf2 Yc3 Yf3 Yc4 Yf4 Yc5 Yf5
   clear hk HP3 HS514 HX515 HY513 HS516 HK517
   obtain ⟨Sc0, Sf0, Sc1, Sf1, Sc2, Sf2, Sc3, Sf3, Sc4, Sf4, Sc5, Sf5⟩ := cf6 HS519.out
   obtain ⟨Xc0, Xf0, Xc1, Xf1, Xc2, Xf2, Xc3, Xf3, Xc4, Xf4, Xc5, Xf5⟩ := cf6 HX520.out
   obtain ⟨Yc0, Yf0, Yc1, Yf1, Yc2, Yf2, Yc3, Yf3, Yc4, Yf4, Yc5, Yf5⟩ := cf6 HY521.out
   have hs0 : (w518.setCell ⟨YB, 3, none⟩ (.string ⟨c1.toArray⟩)).heap[YB]? = some (.cells #[.int .i64 6, .string ⟨a1.toArray⟩, .string ⟨a2.toArray⟩, .string ⟨c1.toArray⟩, .string ⟨#[]⟩, .slice none 0 0] 49) := heap_set (HY521.out) 3 (.string ⟨c1.toArray⟩)
   have hs1 : ((w518.setCell ⟨YB, 3, none⟩ (.string ⟨c1.toArray⟩)).setCell ⟨YB, 4, none⟩ (.string ⟨c2.toArray⟩)).heap[YB]? = some (.cells #[.int .i64 6, .string ⟨a1.toArray⟩, .string ⟨a2.toArray⟩, .string ⟨c1.toArray⟩, .string ⟨c2.toArray⟩, .slice none 0 0] 49) := heap_set (hs0) 4 (.string ⟨c2.toArray⟩)
   have hkE : Keeps (fun q => q = YB) w518 ((w518.setCell ⟨YB, 3, none⟩ (.string ⟨c1.toArray⟩)).setCell ⟨YB, 4, none⟩ (.string ⟨c2.toArray⟩)) := (Keeps.setCell (S := fun q => q = YB) (Keeps.setCell (S := fun q => q = YB) (Keeps.refl _ _) (p := ⟨YB, 3, none⟩) (fun _ => rfl) _) (p := ⟨YB, 4, none⟩) (fun _ => rfl) _)
   have HY525 := Lib.hid hs1
   have HS526 := Lib.hid (((hkE).block _ (lt_of_heap HS519.out) (by have := HN500.out; show ¬ _ = _; omega)).trans HS519.out)
   have HX527 := Lib.hid (((hkE).block _ (lt_of_heap HX520.out) (by have := HN500.out; show ¬ _ = _; omega)).trans HX520.out)
   have HS528 := Lib.hid (HS522.out.keeps hkE (by have := HN500.out; show ¬ _ = _; omega))
   have HK529 := Lib.hid (HK523.out.trans_new hkE (fun q hq e => by have := HN500.out; omega))
   clear hkE hs0 hs1 HY521 HS519 HX520 HS522 HK523
   go_upto_region 14 with fail
   clear Sc0 Sf0 Sc1 Sf1 Sc2 Sf2 Sc3 Sf3 Sc4 Sf4 Sc5 Sf5 Xc0 Xf0 Xc1 Xf1 Xc2 Xf2 Xc3 Xf3 Xc4 Xf4 Xc5 Xf5 Yc0 Yf0 Yc1 Yf1 Yc2 Yf2 Yc3 Yf3 Yc4 Yf4 Yc5 Yf5
   generalize ((w518.setCell ⟨YB, 3, none⟩ (.string ⟨c1.toArray⟩)).setCell ⟨YB, 4, none⟩ (.string ⟨c2.toArray⟩)) = w524 at *
   obtain ⟨Sc0, Sf0, Sc1, Sf1, Sc2, Sf2, Sc3, Sf3, Sc4, Sf4, Sc5, Sf5⟩ := cf6 HS526.out
   obtain ⟨Xc0, Xf0, Xc1, Xf1, Xc2, Xf2, Xc3, Xf3, Xc4, Xf4, Xc5, Xf5⟩ := cf6 HX527.out
   obtain ⟨Yc0, Yf0, Yc1, Yf1, Yc2, Yf2, Yc3, Yf3, Yc4, Yf4, Yc5, Yf5⟩ := cf6 HY525.out
   obtain ⟨hs0, hkE⟩ := sx6 HX527.out (.int .i64 6) (.string ⟨a1.toArray⟩) (.string ⟨a2.toArray⟩) (.string ⟨c1.toArray⟩) (.string ⟨c2.toArray⟩) (.slice none 0 0)
   have HX530 := Lib.hid hs0
   have HS531 := Lib.hid (((hkE).block _ (lt_of_heap HS526.out) (by have := HN500.out; show ¬ _ = _; omega)).trans HS526.out)
   have HY532 := Lib.hid (((hkE).block _ (lt_of_heap HY525.out) (by have := HN500.out; show ¬ _ = _; omega)).trans HY525.out)
   have HS533 := Lib.hid (HS528.out.keeps hkE (by have := HN500.out; show ¬ _ = _; omega))
   have HK534 := Lib.hid (HK529.out.trans_new hkE (fun q hq e => by have := HN500.out; omega))
   clear hkE hs0 HX527 HS526 HY525 HS528 HK529
   go_wp2_with fail
   clear Sc0 Sf0 Sc1 Sf1 Sc2 Sf2 Sc3 Sf3 Sc4 Sf4 Sc5 Sf5 Xc0 Xf0 Xc1 Xf1 Xc2 Xf2 Xc3 Xf3 Xc4 Xf4 Xc5 Xf5 Yc0 Yf0 Yc1 Yf1 Yc2 Yf2 Yc3 Yf3 Yc4 Yf4 Yc5 Yf5
   generalize ((((((w524.setCell ⟨WA.heap.size, 0, none⟩ (.int .i64 6)).setCell ⟨WA.heap.size, 1, none⟩ (.string ⟨a1.toArray⟩)).setCell ⟨WA.heap.size, 2, none⟩ (.string ⟨a2.toArray⟩)).setCell ⟨WA.heap.size, 3, none⟩ (.string ⟨c1.toArray⟩)).setCell ⟨WA.heap.size, 4, none⟩ (.string ⟨c2.toArray⟩)).setCell ⟨WA.heap.size, 5, none⟩ (.slice none 0 0)) = WE at *
   obtain ⟨Xc0, Xf0, Xc1, Xf1, Xc2, Xf2, Xc3, Xf3, Xc4, Xf4, Xc5, Xf5⟩ := cf6 HX530.out
   refine bodyPost_ret (v := .agg #[.int .i64 6, .string ⟨a1.toArray⟩, .string ⟨a2.toArray⟩, .string ⟨c1.toArray⟩, .string ⟨c2.toArray⟩, .slice none 0 0]) (by simp [results, Tryz.results15, go_sem, *]) rfl ?_
   exact ⟨.slice none 0 0, rfl, HS533.out, HK534.out, RowAt.nil _ _⟩
end
end Go.Proofs.YtcdfpnlaklaafaaGreat
