/-
 The walk of DrillDraws: what any seed draws, thing by thing.
-/
import Derived.Test.YtcdfpnlaklaafaaGreatPolSame
import Derived.Test.YtcdfpnlaklaafaaGreatStmEql
set_option linter.unusedVariables false
set_option linter.unusedSimpArgs false
set_option linter.unnecessarySimpa false
namespace Go.Proofs.YtcdfpnlaklaafaaGreat
open Go.ChangeShapes Go.WideShapes Go.ChangeAt Go.RowKit Go.Deep
set_option maxRecDepth 100000
set_option maxHeartbeats 12800000
theorem bel_next {y : Int} : (belD y 4611686018427387904).1 = told (lcg y) ∧ (belD y 4611686018427387904).2 = lcg y := by
 have h := lcg_range y
 unfold belD
 rw [if_neg (by omega)]
 exact ⟨Int.emod_eq_of_lt h.1 (by omega), rfl⟩
theorem pol_few (y : Int) (s : Shp) (hf : fitsD s = true) : (polD y s).1.1.length ≤ 1000000 ∧ (polD y s).1.2.1.length ≤ 1000000 ∧ (polD y s).1.2.2.1.length ≤ 1000000 ∧ (polD y s).1.2.2.2.length ≤ 1000000 ∧ ∀ q ∈ (polD y s).1.2.2.2, q.2.2.2.length ≤ 1000000 := by
 have hb := hf
 unfold fitsD at hb
 rw [decide_eq_true_eq] at hb
 have sl : ∀ {α : Type} (lt : α → α → Prop) [DecidableRel lt] [DecidableEq α] (l a : List α), (l.foldl (putO lt) a).length ≤ a.length + l.length := by
  intro α lt _ _ l
  induction l with
  | nil => intro a; simp
  | cons x l ih =>
   intro a
   have h1 := ih (putO lt a x)
   have h2 : (putO lt a x).length ≤ a.length + 1 := by
    unfold putO
    split
    ·omega
    ·have := ahead_le (lt := lt) x a
     simp only [List.length_append, List.length_take, List.length_drop, List.length_cons, List.length_nil]
     omega
   simp only [List.foldl_cons, List.length_cons]
   omega
 have so : ∀ {α : Type} (lt : α → α → Prop) [DecidableRel lt] [DecidableEq α] (l : List α), (sortO lt l).length ≤ l.length := fun lt _ _ l => by
  have q := sl lt l []
  rw [List.length_nil, Nat.zero_add] at q
  exact q
 unfold polD
 refine ⟨?_, ?_, ?_, ?_, ?_⟩
 ·refine Nat.le_trans (so stmLt _) ?_
  rw [List.length_map, manyD_len]
  omega
 ·refine Nat.le_trans (so rolLt _) ?_
  rw [manyD_len]
  omega
 ·refine Nat.le_trans (so rolLt _) ?_
  rw [manyD_len]
  omega
 ·show (manyD _ _ _).1.length ≤ _
  rw [manyD_len]
  omega
 ·intro q hq
  exact Nat.le_trans (many_asks s _ _ q hq) (by omega)
theorem drillDraws_core (W : World) (X : Int) (hX0 : 0 ≤ X) (hX1 : X ≤ 18446744073709551615) (s : Shp) (ao : Option Addr) (n cap : Nat) (G : Nat → Nat → Value) (R : IsRow W [.int .u64, .int .i64] ao n cap G) :
  Calls Tryz.prog 3 #[.int .u64 X, ShpV s, .slice ao n cap] W fun e W' => e = .returned (.bool true) ∧ Hid (Keeps (fun _ => False) W W') := by
 have HR := Lib.hid R
 have hle := R.le
 have hmx : n ≤ maxLen := Nat.le_trans R.le R.max
 unfold maxLen at hmx
 clear R
 have HRF : Hid (∀ W : World, Calls Tryz.prog 6 #[ShpV s] W fun e W' => e = .returned (.bool (fitsD s)) ∧ Hid (Keeps (fun _ => False) W W')) := fun W => rfits_spec s
 have HDF : Hid (∀ W : World, Calls Tryz.prog 7 #[ShpV s] W fun e W' => e = .returned (.bool (fitsD s)) ∧ Hid (Keeps (fun _ => False) W W')) := fun W => dfits_spec s
 have HLV : Hid (∀ W : World, Calls Tryz.prog 21 #[] W fun e w' => e = .returned (.bool true) ∧ Below W.heap.size W w') := fun W => lives34_any W
 have HNEW : Hid (∀ W : World, Calls Tryz.prog 5 #[.int .u64 X] W fun e w' => e = .returned (.pointer (some ⟨W.heap.size, 0, none⟩)) ∧ w' = W.alloc (.cells #[.int .u64 X] 67)) := fun W => drillNew_any X W
 obtain ⟨ok, hok⟩ : ∃ q, fitsD s = q := ⟨_, rfl⟩
 rw [hok] at HRF HDF
 have HOK := Lib.hid hok
 clear hok
 obtain ⟨SB, hSB⟩ : ∃ q, W.heap.size = q := ⟨_, rfl⟩
 have hal0 := (MapKept.heap_alloc W (.cells #[.int .i64 s.prins, .int .i64 s.links, .int .i64 s.stmts, .int .i64 s.grow, .int .i64 s.shrink, .int .i64 s.asks] 24)).1
 obtain ⟨W1, hW1⟩ : ∃ q, W.alloc (.cells #[.int .i64 s.prins, .int .i64 s.links, .int .i64 s.stmts, .int .i64 s.grow, .int .i64 s.shrink, .int .i64 s.asks] 24) = q := ⟨_, rfl⟩
 have k1 : Keeps (fun _ => False) W W1 := by rw [← hW1]; exact (Keeps.refl _ _).alloc _
 have z1 : W1.heap.size = SB + 1 := by rw [← hW1, ← hSB]; simp
 rw [hW1, hSB] at hal0
 have hal1 := (MapKept.heap_alloc W1 (.cells #[.int .u64 X] 67)).1
 obtain ⟨W2, hW2⟩ : ∃ q, W1.alloc (.cells #[.int .u64 X] 67) = q := ⟨_, rfl⟩
 have k2 : Keeps (fun _ => False) W1 W2 := by rw [← hW2]; exact (Keeps.refl _ _).alloc _
 have z2 : W2.heap.size = SB + 2 := by rw [← hW2]; simp; omega
 rw [hW2, z1] at hal1
 have hal2 := (MapKept.heap_alloc W2 (.cells #[.int .u64 X] 30)).1
 obtain ⟨W3, hW3⟩ : ∃ q, W2.alloc (.cells #[.int .u64 X] 30) = q := ⟨_, rfl⟩
 have k3 : Keeps (fun _ => False) W2 W3 := by rw [← hW3]; exact (Keeps.refl _ _).alloc _
 have z3 : W3.heap.size = SB + 3 := by rw [← hW3]; simp; omega
 rw [hW3, z2] at hal2
 have HS1 : Hid (W1.heap[SB]? = some (.cells #[.int .i64 s.prins, .int .i64 s.links, .int .i64 s.stmts, .int .i64 s.grow, .int .i64 s.shrink, .int .i64 s.asks] 24)) := hal0
 have HS0 : Hid (W3.heap[SB]? = some (.cells #[.int .i64 s.prins, .int .i64 s.links, .int .i64 s.stmts, .int .i64 s.grow, .int .i64 s.shrink, .int .i64 s.asks] 24)) := ((k2.trans k3).block _ (lt_of_heap hal0) (fun x => x)).trans hal0
 have HD0 : Hid (StB W3 67 (SB + 1) X) := ⟨(k3.block _ (lt_of_heap hal1) (fun x => x)).trans hal1, hX0, hX1⟩
 have HX0 : Hid (StB W3 30 (SB + 2) X) := ⟨hal2, hX0, hX1⟩
 have HK0 : Hid (Keeps (fun _ => False) W W3) := (k1.trans k2).trans k3
 obtain ⟨bd, hbd⟩ : ∃ q, SB + 1 = q := ⟨_, rfl⟩
 obtain ⟨bx, hbx⟩ : ∃ q, SB + 2 = q := ⟨_, rfl⟩
 have HN : Hid (W.heap.size ≤ SB ∧ SB < bd ∧ bd < bx) := ⟨by omega, by omega, by omega⟩
 have HNW : Hid (W.heap.size = SB) := hSB
 rw [hbd] at HD0
 rw [hbx] at HX0
 have hz1 : W1.heap.size = bd := by omega
 have hz2 : W2.heap.size = bx := by omega
 clear k1 k2 k3 z1 z2 z3 hal0 hal1 hal2 hX0 hX1 hbd hbx
 have HC2D : Hid (∀ (y : Int) (W : World), StB W 67 bd y → Calls Tryz.prog 12 #[.pointer (some ⟨bd, 0, none⟩), ShpV s] W (DrTo W 67 bd (rolV (orD s noRol rolD y).1) (orD s noRol rolD y).2)) := fun y W h => drole_spec h
 have HC3D : Hid (∀ (y : Int) (W : World), StB W 67 bd y → Calls Tryz.prog 14 #[.pointer (some ⟨bd, 0, none⟩), ShpV s] W (DrTo W 67 bd (stmV (orD s noStm stmD y).1) (orD s noStm stmD y).2)) := fun y W h => dstmt_spec h
 have HC4D : Hid (∀ (y : Int) (W : World), StB W 67 bd y → Calls Tryz.prog 17 #[.pointer (some ⟨bd, 0, none⟩), ShpV s] W (AskTo W 67 bd (orD s noQry askD y).1 (orD s noQry askD y).2)) := fun y W h => dask_spec h
 have HC5D : Hid (∀ (y : Int) (W : World), StB W 67 bd y → Calls Tryz.prog 20 #[.pointer (some ⟨bd, 0, none⟩), ShpV s] W (PolDr W 67 bd (orD s noPol polD y).1 (orD s noPol polD y).2)) := fun y W h => dpol_spec h
 have HC2R : Hid (fitsD s = true → ∀ (y : Int) (W : World), StB W 30 bx y → Calls Tryz.prog 11 #[.pointer (some ⟨bx, 0, none⟩), ShpV s] W (DrTo W 30 bx (rolV (rolD y s).1) (rolD y s).2)) := fun hf y W h => rrole_spec hf h
 have HC3R : Hid (fitsD s = true → ∀ (y : Int) (W : World), StB W 30 bx y → Calls Tryz.prog 13 #[.pointer (some ⟨bx, 0, none⟩), ShpV s] W (DrTo W 30 bx (stmV (stmD y s).1) (stmD y s).2)) := fun hf y W h => rstmt_spec hf h
 have HC4R : Hid (fitsD s = true → ∀ (y : Int) (W : World), StB W 30 bx y → Calls Tryz.prog 15 #[.pointer (some ⟨bx, 0, none⟩), ShpV s] W (AskTo W 30 bx (askD y s).1 (askD y s).2)) := fun hf y W h => rask_spec hf h
 have HC5R : Hid (fitsD s = true → ∀ (y : Int) (W : World), StB W 30 bx y → Calls Tryz.prog 18 #[.pointer (some ⟨bx, 0, none⟩), ShpV s] W (PolDr W 30 bx (polD y s).1 (polD y s).2)) := fun hf y W h => rpol_spec hf h
 have HC1D : Hid (∀ (y m : Int) (W : World), m ≤ 9223372036854775807 → StB W 67 bd y → Calls Tryz.prog 10 #[.pointer (some ⟨bd, 0, none⟩), .int .i64 m] W (DrTo W 67 bd (.int .i64 (belD y m).1) (belD y m).2)) := fun y m W hm h => dbelow_spec hm h
 have HC1R : Hid (∀ (y m : Int) (W : World), m ≤ 9223372036854775807 → StB W 30 bx y → Calls Tryz.prog 9 #[.pointer (some ⟨bx, 0, none⟩), .int .i64 m] W (DrTo W 30 bx (.int .i64 (belD y m).1) (belD y m).2)) := fun y m W hm h => rbelow_spec hm h
 unfold ShpV at *
 go_enter Tryz.func3, Tryz.ntmps3
 go_upto_region 1 with fail
 go_wp2_with fail
 refine (HNEW.out _).mono ?_
 rintro e wN ⟨rfl, rfl⟩
 simp only [hW2, hz1]
 go_upto_region 2 with fail
 clear hW1 hW2 hW3 hSB HNEW hz1 hz2 HS1
 obtain ⟨Sc0, Sf0, Sc1, Sf1, Sc2, Sf2, Sc3, Sf3, Sc4, Sf4, Sc5, Sf5⟩ := cf6 HS0.out
 go_upto_region 4 with fail
 go_wp2_with fail
 refine (HRF.out _).mono ?_
 rintro e w1 ⟨rfl, hk⟩
 have HS2 := Lib.hid (((hk.out).block _ (lt_of_heap HS0.out) (fun x => x)).trans HS0.out)
 have HE3 := Lib.hid (StB.keeps HX0.out (hk.out) (fun x => x))
 have HS4 := Lib.hid (HD0.out.keeps hk.out (fun x => x))
 have HK5 := Lib.hid (HK0.out.trans hk.out)
 clear Sc0 Sf0 Sc1 Sf1 Sc2 Sf2 Sc3 Sf3 Sc4 Sf4 Sc5 Sf5
 clear hk HS0 HX0 HD0 HK0
 clear HRF
 obtain ⟨Sc0, Sf0, Sc1, Sf1, Sc2, Sf2, Sc3, Sf3, Sc4, Sf4, Sc5, Sf5⟩ := cf6 HS2.out
 have hal := (MapKept.heap_alloc w1 (.cells #[.int .i64 s.prins, .int .i64 s.links, .int .i64 s.stmts, .int .i64 s.grow, .int .i64 s.shrink, .int .i64 s.asks] 32)).1
 have hkE : Keeps (fun _ => False) w1 (w1.alloc (.cells #[.int .i64 s.prins, .int .i64 s.links, .int .i64 s.stmts, .int .i64 s.grow, .int .i64 s.shrink, .int .i64 s.asks] 32)) := (Keeps.refl _ _).alloc _
 obtain ⟨UB, hUB⟩ : ∃ q, w1.heap.size = q := ⟨_, rfl⟩
 rw [hUB] at hal
 have HS8 := Lib.hid (((hkE).block _ (lt_of_heap HS2.out) (fun x => x)).trans HS2.out)
 have HE9 := Lib.hid (StB.keeps HE3.out (hkE) (fun x => x))
 have HN7 : Hid ((W.heap.size ≤ SB ∧ SB < bd ∧ bd < bx) ∧ W.heap.size ≤ UB ∧ SB < UB ∧ bd < UB ∧ bx < UB) := ⟨HN.out, by
  have hz := HK5.out.size
  have l0 := lt_of_heap HS2.out
  have ls := lt_of_heap HS4.out.1
  have lx0 := lt_of_heap HE3.out.1
  refine ⟨?_, ?_, ?_, ?_⟩ <;> omega⟩
 have HS10 := Lib.hid (HS4.out.keeps hkE (fun x => x))
 have HK11 := Lib.hid (HK5.out.trans hkE)
 have HU12 := Lib.hid hal
 clear hkE hal HS2 HE3 HN HS4 HK5
 go_upto_region 6 with fail
 clear Sc0 Sf0 Sc1 Sf1 Sc2 Sf2 Sc3 Sf3 Sc4 Sf4 Sc5 Sf5
 clear hUB
 generalize (w1.alloc (.cells #[.int .i64 s.prins, .int .i64 s.links, .int .i64 s.stmts, .int .i64 s.grow, .int .i64 s.shrink, .int .i64 s.asks] 32)) = w6 at *
 obtain ⟨Sc0, Sf0, Sc1, Sf1, Sc2, Sf2, Sc3, Sf3, Sc4, Sf4, Sc5, Sf5⟩ := cf6 HS8.out
 obtain ⟨Uc0, Uf0, Uc1, Uf1, Uc2, Uf2, Uc3, Uf3, Uc4, Uf4, Uc5, Uf5⟩ := cf6 HU12.out
 go_wp2_with fail
 refine (HDF.out _).mono ?_
 rintro e w13 ⟨rfl, hk⟩
 have HS14 := Lib.hid (((hk.out).block _ (lt_of_heap HS8.out) (fun x => x)).trans HS8.out)
 have HU15 := Lib.hid (((hk.out).block _ (lt_of_heap HU12.out) (fun x => x)).trans HU12.out)
 have HE16 := Lib.hid (StB.keeps HE9.out (hk.out) (fun x => x))
 have HS17 := Lib.hid (HS10.out.keeps hk.out (fun x => x))
 have HK18 := Lib.hid (HK11.out.trans hk.out)
 clear Sc0 Sf0 Sc1 Sf1 Sc2 Sf2 Sc3 Sf3 Sc4 Sf4 Sc5 Sf5 Uc0 Uf0 Uc1 Uf1 Uc2 Uf2 Uc3 Uf3 Uc4 Uf4 Uc5 Uf5
 clear hk HS8 HU12 HE9 HS10 HK11
 clear HDF
 have hbeq : (ok != ok) = false := by cases ok <;> rfl
 go_upto_region 8 with fail
 clear hbeq
 go_wp2_with fail
 go_loopg [34] n (fun g t wx => ∃ (i : Nat) (y : Int), i ≤ n ∧ i ≤ 30 ∧ g = n - i ∧ t = .int .i64 i ∧ Hid (StB wx 67 bd y ∧ StB wx 30 bx y ∧ Keeps (fun _ => False) W wx ∧ wx.heap[SB]? = some (.cells #[.int .i64 s.prins, .int .i64 s.links, .int .i64 s.stmts, .int .i64 s.grow, .int .i64 s.shrink, .int .i64 s.asks] 24) ∧ wx.heap[UB]? = some (.cells #[.int .i64 s.prins, .int .i64 s.links, .int .i64 s.stmts, .int .i64 s.grow, .int .i64 s.shrink, .int .i64 s.asks] 32)))
 case atStart => exact ⟨0, X, Nat.zero_le _, Nat.zero_le _, rfl, rfl, HS17.out, HE16.out, HK18.out, HS14.out, HU15.out⟩
 case round =>
  obtain ⟨i, y, hi, hi3, rfl, rfl, HI⟩ := hrel
  clear HS17 HE16 HK18 HS14 HU15
  have HTD := Lib.hid HI.out.1
  have HTR := Lib.hid HI.out.2.1
  have HK1 := Lib.hid HI.out.2.2.1
  have HSA := Lib.hid HI.out.2.2.2.1
  have HHA := Lib.hid HI.out.2.2.2.2
  clear HI
  by_cases hlt : i < n
  ·have hiI : (i : Int) < (n : Int) := by omega
   have hwi : IntKind.i64.wrap ((i : Int) + 1) = (i : Int) + 1 := IntWalk.i64_in _ (by omega)
   have hicap : i < cap := by omega
   obtain ⟨g, off, rfl, hg, hc⟩ := HR.out.at_ (by omega)
   obtain ⟨K, hK, wK⟩ := HR.out.ok i 0 _ hlt rfl
   obtain ⟨Nn, hN, wN⟩ := HR.out.ok i 1 _ hlt rfl
   have bK := bounds_u64 wK
   have bN := bounds_i64 wN
   obtain ⟨bK0, bK1⟩ := bK
   obtain ⟨bN0, bN1⟩ := bN
   have c0 := (HK1.out.cell (p := ⟨g, off + (i * 2 + 0), none⟩) hg (fun x => x)).trans (hc i 0 hlt (by decide))
   have c1 := (HK1.out.cell (p := ⟨g, off + (i * 2 + 1), none⟩) hg (fun x => x)).trans (hc i 1 hlt (by decide))
   rw [hK] at c0
   rw [hN] at c1
   simp only [Nat.add_zero] at c0
   have c0' : wr.cell? ⟨g, off + i * 2, none⟩ = some (.int .u64 K) := c0
   have c1' : wr.cell? ⟨g, off + i * 2 + 1, none⟩ = some (.int .i64 Nn) := by rw [Nat.add_assoc]; exact c1
   clear hc hK hN wK wN c0 c1
   have hal := (MapKept.heap_alloc wr (.cells #[.int .u64 K, .int .i64 Nn] 36)).1
   have hkE : Keeps (fun _ => False) wr (wr.alloc (.cells #[.int .u64 K, .int .i64 Nn] 36)) := (Keeps.refl _ _).alloc _
   obtain ⟨OB, hOB⟩ : ∃ q, wr.heap.size = q := ⟨_, rfl⟩
   rw [hOB] at hal
   have HS21 := Lib.hid (((hkE).block _ (lt_of_heap HSA.out) (fun x => x)).trans HSA.out)
   have HU22 := Lib.hid (((hkE).block _ (lt_of_heap HHA.out) (fun x => x)).trans HHA.out)
   have HE23 := Lib.hid (StB.keeps HTR.out (hkE) (fun x => x))
   have HN20 : Hid (((W.heap.size ≤ SB ∧ SB < bd ∧ bd < bx) ∧ W.heap.size ≤ UB ∧ SB < UB ∧ bd < UB ∧ bx < UB) ∧ W.heap.size ≤ OB ∧ SB < OB ∧ UB < OB ∧ bd < OB ∧ bx < OB) := ⟨HN7.out, by
    have hz := HK1.out.size
    have l0 := lt_of_heap HSA.out
    have l1 := lt_of_heap HHA.out
    have ls := lt_of_heap HTD.out.1
    have lx0 := lt_of_heap HTR.out.1
    refine ⟨?_, ?_, ?_, ?_, ?_⟩ <;> omega⟩
   have HS24 := Lib.hid (HTD.out.keeps hkE (fun x => x))
   have HK25 := Lib.hid (HK1.out.trans hkE)
   have HO26 := Lib.hid hal
   clear hkE hal HSA HHA HTR HN7 HTD HK1
   go_upto_region 11 with fail
   clear c0' c1'
   clear hOB
   generalize (wr.alloc (.cells #[.int .u64 K, .int .i64 Nn] 36)) = w19 at *
   by_cases h30 : i = 30
   ·have h30I : (i : Int) = 30 := by omega
    subst h30
    go_wp2_with fail
    refine (HLV.out _).mono ?_
    rintro e we ⟨rfl, hb⟩
    have HE := Lib.hid (HK25.out.trans (Keeps.of_below hb (Nat.le_refl _)))
    clear hb
    go_wp2_with fail
    go_ret
    exact ⟨rfl, HE⟩
   ·have h30I : ¬ (i : Int) = 30 := by omega
    have hi4 : i + 1 ≤ 30 := by omega
    obtain ⟨Oc0, Of0, Oc1, Of1⟩ := cf2 HO26.out
    have hkk : K % 6 = 0 ∨ K % 6 = 1 ∨ K % 6 = 2 ∨ K % 6 = 3 ∨ K % 6 = 4 ∨ K % 6 = 5 := by omega
    rcases hkk with hr | hr | hr | hr | hr | hr
    ·skip
     go_upto_region 19 with fail
     have HNX : Hid (StB w19 67 bd y) := HS24.out
     have nc := HS24.out.c0
     have nf := HS24.out.f0
     have HC := Lib.hid (drillNext_any bd y w19 nc nf)
     have HBX := Lib.hid (HC1R.out y 4611686018427387904)
     have hbl := bel_next (y := y)
     rw [hbl.1, hbl.2] at HBX
     have htr := lcg_range y
     obtain ⟨htr0, htr1⟩ := htr
     have hpu := HS24.out.put (lcg_u64 y)
     have HPU := Lib.hid hpu
     have hwt : IntKind.u64.wrap (told (lcg y)) = told (lcg y) := IntWalk.u64_in _ (by omega)
     clear nc nf hbl hpu
     go_wp2_with fail
     refine HC.out.mono ?_
     rintro e wA ⟨rfl, rfl⟩
     have HPS := Lib.hid HPU.out.1
     have hkE := HPU.out.2
     have HS27 := Lib.hid (((hkE).block _ (lt_of_heap HS21.out) (by have := HN20.out; show ¬ _ = _; omega)).trans HS21.out)
     have HU28 := Lib.hid (((hkE).block _ (lt_of_heap HU22.out) (by have := HN20.out; show ¬ _ = _; omega)).trans HU22.out)
     have HO29 := Lib.hid (((hkE).block _ (lt_of_heap HO26.out) (by have := HN20.out; show ¬ _ = _; omega)).trans HO26.out)
     have HE30 := Lib.hid (StB.keeps HE23.out (hkE) (by have := HN20.out; show ¬ _ = _; omega))
     have HK31 := Lib.hid (HK25.out.trans_new hkE (fun q hq e => by have := HN20.out; omega))
     clear Oc0 Of0 Oc1 Of1
     clear hkE HPU HC HNX HS24 HS21 HU22 HO26 HE23 HK25
     generalize (w19.setCell ⟨bd, 0, none⟩ (.int .u64 (lcg y))) = wA at *
     go_wp2_with fail
     refine (HBX.out _ (by omega) HE30.out).mono ?_
     rintro e wB ⟨rfl, hk⟩
     have HS32 := Lib.hid (((hk.out.2).block _ (lt_of_heap HS27.out) (by have := HN20.out; show ¬ _ = _; omega)).trans HS27.out)
     have HU33 := Lib.hid (((hk.out.2).block _ (lt_of_heap HU28.out) (by have := HN20.out; show ¬ _ = _; omega)).trans HU28.out)
     have HO34 := Lib.hid (((hk.out.2).block _ (lt_of_heap HO29.out) (by have := HN20.out; show ¬ _ = _; omega)).trans HO29.out)
     have HE35 := Lib.hid (StB.keeps HPS.out (hk.out.2) (by have := HN20.out; show ¬ _ = _; omega))
     have HSB := Lib.hid (hk.out.1)
     have HK36 := Lib.hid (HK31.out.trans_new hk.out.2 (fun q hq e => by have := HN20.out; omega))
     clear hk HBX HS27 HU28 HO29 HPS HE30 HK31
     go_upto_region 37 with fail
     have HN2 : Hid (StB wB 67 bd (lcg y) ∧ StB wB 30 bx (lcg y) ∧ Keeps (fun _ => False) W wB ∧ wB.heap[SB]? = some (.cells #[.int .i64 s.prins, .int .i64 s.links, .int .i64 s.stmts, .int .i64 s.grow, .int .i64 s.shrink, .int .i64 s.asks] 24) ∧ wB.heap[UB]? = some (.cells #[.int .i64 s.prins, .int .i64 s.links, .int .i64 s.stmts, .int .i64 s.grow, .int .i64 s.shrink, .int .i64 s.asks] 32)) := ⟨HE35.out, HSB.out, HK36.out, HS32.out, HU33.out⟩
     clear HE35 HSB HK36 HS32 HU33
     go_wp2_with fail
     go_roundg (n - (i + 1))
     case measure => omega
     case rel => exact ⟨i + 1, (lcg y), by omega, hi4, rfl, by go_num, HN2⟩
    ·skip
     go_upto_region 21 with fail
     clear Oc0 Of0 Oc1 Of1
     have HB1 : Hid (∀ W, StB W 67 bd y → Calls Tryz.prog 10 #[.pointer (some ⟨bd, 0, none⟩), .int .i64 Nn] W (DrTo W 67 bd (.int .i64 (belD y Nn).1) (belD y Nn).2)) := fun W h => HC1D.out y Nn W bN1 h
     have HB2 : Hid (∀ W, StB W 30 bx y → Calls Tryz.prog 9 #[.pointer (some ⟨bx, 0, none⟩), .int .i64 Nn] W (DrTo W 30 bx (.int .i64 (belD y Nn).1) (belD y Nn).2)) := fun W h => HC1R.out y Nn W bN1 h
     obtain ⟨⟨r, y2⟩, hb⟩ : ∃ q, belD y Nn = q := ⟨_, rfl⟩
     rw [hb] at HB1 HB2
     simp only at HB1 HB2
     clear hb
     have HMK37 : Hid (∀ w' : World, w'.heap[OB]? = some (.cells #[.int .u64 K, .int .i64 Nn] 36) → w'.cell? ⟨OB, 0, none⟩ = some (.int .u64 K) ∧ w'.cell? ⟨OB, 1, none⟩ = some (.int .i64 Nn) ∧ Hid (w'.heap[OB]? = some (.cells #[.int .u64 K, .int .i64 Nn] 36))) := fun w' h0 => ⟨(by rw [cell_of_heap h0]; rfl), (by rw [cell_of_heap h0]; rfl), Lib.hid h0⟩
     have hkd : Keeps (fun _ => False) w19 w19.drew := (Keeps.refl _ _).drew
     have HS38 := Lib.hid (((hkd).block _ (lt_of_heap HS21.out) (fun x => x)).trans HS21.out)
     have HU39 := Lib.hid (((hkd).block _ (lt_of_heap HU22.out) (fun x => x)).trans HU22.out)
     have HO40 := Lib.hid (((hkd).block _ (lt_of_heap HO26.out) (fun x => x)).trans HO26.out)
     have HE41 := Lib.hid (StB.keeps HE23.out (hkd) (fun x => x))
     have HS42 := Lib.hid (HS24.out.keeps hkd (fun x => x))
     have HK43 := Lib.hid (HK25.out.drew)
     have hS0 := HMK37.out w19.drew HO40.out
     clear hkd HS21 HU22 HO26 HE23 HS24 HK25
     refine wp_region_noPanic ?_
     refine wp_region_held_drew (S := (fun w' => w'.cell? ⟨OB, 0, none⟩ = some (.int .u64 K) ∧ w'.cell? ⟨OB, 1, none⟩ = some (.int .i64 Nn) ∧ Hid (w'.heap[OB]? = some (.cells #[.int .u64 K, .int .i64 Nn] 36)))) (by kernel_rfl) hS0 (fun hHeld => ?_)
     clear hS0
     generalize w19.drew = w44 at *
     refine wpAnyH_take_at (i := 0) (v := ?v0_45) rfl (by kernel_rfl) (by kernel_rfl) (by kernel_rfl) (fun _ _ _ h => h) (Or.inl ⟨by rfl, ?y0_45⟩) hHeld ?r0_45
     case y0_45 => (intro w hSw; (try dsimp only at hSw); go_simp; first | done | with_reducible rfl)
     (try simp only [Act.put, nm1, nm2, nm3])
     refine wpAnyH_take_at (i := 4) (v := ?v4_46) rfl (by kernel_rfl) (by kernel_rfl) (by kernel_rfl) (fun _ _ _ h => h) (Or.inl ⟨by rfl, ?y4_46⟩) hHeld ?r4_46
     case y4_46 => (intro w hSw; (try dsimp only at hSw); go_simp; first | done | with_reducible rfl)
     (try simp only [Act.put, nm1, nm2, nm3])
     refine wpAnyH_take_at (i := 1) (v := ?v1_47) rfl (by kernel_rfl) (by kernel_rfl) (by kernel_rfl) (fun _ _ _ h => h) (Or.inl ⟨by rfl, ?y1_47⟩) hHeld ?r1_47
     case y1_47 => (intro w hSw; (try dsimp only at hSw); go_simp; first | done | with_reducible rfl)
     (try simp only [Act.put, nm1, nm2, nm3])
     refine wpAnyH_take_at (i := 5) (v := ?v5_48) rfl (by kernel_rfl) (by kernel_rfl) (by kernel_rfl) (fun _ _ _ h => h) (Or.inl ⟨by rfl, ?y5_48⟩) hHeld ?r5_48
     case y5_48 => (intro w hSw; (try dsimp only at hSw); go_simp; first | done | with_reducible rfl)
     (try simp only [Act.put, nm1, nm2, nm3])
     refine wpAnyH_take_at (i := 2) (v := ?v2_49) rfl (by kernel_rfl) (by kernel_rfl) (by kernel_rfl) (fun _ _ _ h => h) (Or.inl ⟨by rfl, ?y2_49⟩) hHeld ?r2_49
     case y2_49 => (intro w hSw; (try dsimp only at hSw); go_simp; first | done | with_reducible rfl)
     (try simp only [Act.put, nm1, nm2, nm3])
     refine wpAnyH_take_at (i := 6) (v := ?v6_50) rfl (by kernel_rfl) (by kernel_rfl) (by kernel_rfl) (fun _ _ _ h => h) (Or.inl ⟨by rfl, ?y6_50⟩) hHeld ?r6_50
     case y6_50 => (intro w hSw; (try dsimp only at hSw); go_simp; first | done | with_reducible rfl)
     (try simp only [Act.put, nm1, nm2, nm3])
     refine wpAnyH_one (i := 3) (by kernel_rfl) rfl (fun KK hK => ?_)
     go_simp
     refine (HB1.out _ HS42.out).mono ?_
     rintro e w51 ⟨rfl, hk⟩
     have HS52 := Lib.hid (((hk.out.2).block _ (lt_of_heap HS38.out) (by have := HN20.out; show ¬ _ = _; omega)).trans HS38.out)
     have HU53 := Lib.hid (((hk.out.2).block _ (lt_of_heap HU39.out) (by have := HN20.out; show ¬ _ = _; omega)).trans HU39.out)
     have HO54 := Lib.hid (((hk.out.2).block _ (lt_of_heap HO40.out) (by have := HN20.out; show ¬ _ = _; omega)).trans HO40.out)
     have HE55 := Lib.hid (StB.keeps HE41.out (hk.out.2) (by have := HN20.out; show ¬ _ = _; omega))
     have HS56 := Lib.hid (hk.out.1)
     have HK57 := Lib.hid (HK43.out.trans_new (hk.out.2) (fun q hq e => by have := HN20.out; omega))
     clear hk HB1 HS38 HU39 HO40 HE41 HS42 HK43
     go_simp
     refine hK.out _ _ ?s_58 (fun hHeld => ?_)
     case s_58 => exact HMK37.out _ HO54.out
     clear hK KK
     (try simp only [Act.put, nm1, nm2, nm3])
     refine wpAnyH_one (i := 7) (by kernel_rfl) rfl (fun KK hK => ?_)
     go_simp
     refine (HB2.out _ HE55.out).mono ?_
     rintro e w59 ⟨rfl, hk⟩
     have HS60 := Lib.hid (((hk.out.2).block _ (lt_of_heap HS52.out) (by have := HN20.out; show ¬ _ = _; omega)).trans HS52.out)
     have HU61 := Lib.hid (((hk.out.2).block _ (lt_of_heap HU53.out) (by have := HN20.out; show ¬ _ = _; omega)).trans HU53.out)
     have HO62 := Lib.hid (((hk.out.2).block _ (lt_of_heap HO54.out) (by have := HN20.out; show ¬ _ = _; omega)).trans HO54.out)
     have HE63 := Lib.hid (StB.keeps HS56.out (hk.out.2) (by have := HN20.out; show ¬ _ = _; omega))
     have HS64 := Lib.hid (hk.out.1)
     have HK65 := Lib.hid (HK57.out.trans_new (hk.out.2) (fun q hq e => by have := HN20.out; omega))
     clear hk HB2 HS52 HU53 HO54 HS56 HE55 HK57
     go_simp
     refine hK.out _ _ ?s_66 (fun hHeld => ?_)
     case s_66 => exact HMK37.out _ HO62.out
     clear hK KK
     (try simp only [Act.put, nm1, nm2, nm3])
     refine wpAnyH_one (i := 8) (by kernel_rfl) rfl (fun KK hK => ?_)
     go_simp
     refine hK.out _ _ ?s_67 (fun hHeld => ?_)
     case s_67 => exact HMK37.out _ HO62.out
     clear hK KK
     (try simp only [Act.put, nm1, nm2, nm3])
     refine wpAnyH_one (i := 9) (by kernel_rfl) rfl (fun KK hK => ?_)
     go_simp
     refine hK.out _ _ ?s_68 (fun hHeld => ?_)
     case s_68 => exact HMK37.out _ HO62.out
     clear hK KK
     (try simp only [Act.put, nm1, nm2, nm3])
     refine wpAnyH_done (by kernel_rfl) ?_ _
     refine NoPanic.normal ?_
     clear hHeld HMK37
     go_upto_region 37 with fail
     have HN2 : Hid (StB w59 67 bd y2 ∧ StB w59 30 bx y2 ∧ Keeps (fun _ => False) W w59 ∧ w59.heap[SB]? = some (.cells #[.int .i64 s.prins, .int .i64 s.links, .int .i64 s.stmts, .int .i64 s.grow, .int .i64 s.shrink, .int .i64 s.asks] 24) ∧ w59.heap[UB]? = some (.cells #[.int .i64 s.prins, .int .i64 s.links, .int .i64 s.stmts, .int .i64 s.grow, .int .i64 s.shrink, .int .i64 s.asks] 32)) := ⟨HE63.out, HS64.out, HK65.out, HS60.out, HU61.out⟩
     clear HE63 HS64 HK65 HS60 HU61
     go_wp2_with fail
     go_roundg (n - (i + 1))
     case measure => omega
     case rel => exact ⟨i + 1, y2, by omega, hi4, rfl, by go_num, HN2⟩
    ·skip
     go_upto_region 23 with fail
     clear Oc0 Of0 Oc1 Of1
     have hal := (MapKept.heap_alloc w19 (.cells #[.string ⟨#[]⟩, .string ⟨#[]⟩] 40)).1
     have hkE : Keeps (fun _ => False) w19 (w19.alloc (.cells #[.string ⟨#[]⟩, .string ⟨#[]⟩] 40)) := (Keeps.refl _ _).alloc _
     obtain ⟨RB, hRB⟩ : ∃ q, w19.heap.size = q := ⟨_, rfl⟩
     rw [hRB] at hal
     have HS71 := Lib.hid (((hkE).block _ (lt_of_heap HS21.out) (fun x => x)).trans HS21.out)
     have HU72 := Lib.hid (((hkE).block _ (lt_of_heap HU22.out) (fun x => x)).trans HU22.out)
     have HO73 := Lib.hid (((hkE).block _ (lt_of_heap HO26.out) (fun x => x)).trans HO26.out)
     have HE74 := Lib.hid (StB.keeps HE23.out (hkE) (fun x => x))
     have HN70 : Hid ((((W.heap.size ≤ SB ∧ SB < bd ∧ bd < bx) ∧ W.heap.size ≤ UB ∧ SB < UB ∧ bd < UB ∧ bx < UB) ∧ W.heap.size ≤ OB ∧ SB < OB ∧ UB < OB ∧ bd < OB ∧ bx < OB) ∧ W.heap.size ≤ RB ∧ SB < RB ∧ UB < RB ∧ OB < RB ∧ bd < RB ∧ bx < RB) := ⟨HN20.out, by
      have hz := HK25.out.size
      have l0 := lt_of_heap HS21.out
      have l1 := lt_of_heap HU22.out
      have l2 := lt_of_heap HO26.out
      have ls := lt_of_heap HS24.out.1
      have lx0 := lt_of_heap HE23.out.1
      refine ⟨?_, ?_, ?_, ?_, ?_, ?_⟩ <;> omega⟩
     have HS75 := Lib.hid (HS24.out.keeps hkE (fun x => x))
     have HK76 := Lib.hid (HK25.out.trans hkE)
     have HR77 := Lib.hid hal
     clear hkE hal HS21 HU22 HO26 HE23 HN20 HS24 HK25
     go_upto_region 24 with fail
     clear hRB
     generalize (w19.alloc (.cells #[.string ⟨#[]⟩, .string ⟨#[]⟩] 40)) = w69 at *
     cases ok with
     | false =>
      have HB : Hid (∀ W, StB W 67 bd y → Calls Tryz.prog 12 #[.pointer (some ⟨bd, 0, none⟩), .agg #[.int .i64 s.prins, .int .i64 s.links, .int .i64 s.stmts, .int .i64 s.grow, .int .i64 s.shrink, .int .i64 s.asks]] W (DrTo W 67 bd (.agg #[.string ⟨#[]⟩, .string ⟨#[]⟩]) y)) := fun W h => by
       have q := HC2D.out y W h
       unfold orD at q
       rw [if_neg (by rw [HOK.out]; decide)] at q
       exact q
      obtain ⟨Sc0, Sf0, Sc1, Sf1, Sc2, Sf2, Sc3, Sf3, Sc4, Sf4, Sc5, Sf5⟩ := cf6 HS71.out
      obtain ⟨Uc0, Uf0, Uc1, Uf1, Uc2, Uf2, Uc3, Uf3, Uc4, Uf4, Uc5, Uf5⟩ := cf6 HU72.out
      obtain ⟨Rc0, Rf0, Rc1, Rf1⟩ := cf2 HR77.out
      go_upto_region 26 with fail
      clear Sc0 Sf0 Sc1 Sf1 Sc2 Sf2 Sc3 Sf3 Sc4 Sf4 Sc5 Sf5 Uc0 Uf0 Uc1 Uf1 Uc2 Uf2 Uc3 Uf3 Uc4 Uf4 Uc5 Uf5 Rc0 Rf0 Rc1 Rf1
      have HEQ : ∀ w, (binOp .eql 40 (.agg #[.string ⟨#[]⟩, .string ⟨#[]⟩]) (.agg #[.string ⟨#[]⟩, .string ⟨#[]⟩])).run Tryz.prog w = .ok (.bool true) w := fun w => by
       have q := rol_eql ([], []) ([], []) w
       rw [decide_eq_true rfl] at q
       exact q
      have HMK78 : Hid (∀ w' : World, w'.heap[UB]? = some (.cells #[.int .i64 s.prins, .int .i64 s.links, .int .i64 s.stmts, .int .i64 s.grow, .int .i64 s.shrink, .int .i64 s.asks] 32) → w'.heap[RB]? = some (.cells #[.string ⟨#[]⟩, .string ⟨#[]⟩] 40) → w'.cell? ⟨UB, 0, none⟩ = some (.int .i64 s.prins) ∧ w'.cell? ⟨UB, 1, none⟩ = some (.int .i64 s.links) ∧ w'.cell? ⟨UB, 2, none⟩ = some (.int .i64 s.stmts) ∧ w'.cell? ⟨UB, 3, none⟩ = some (.int .i64 s.grow) ∧ w'.cell? ⟨UB, 4, none⟩ = some (.int .i64 s.shrink) ∧ w'.cell? ⟨UB, 5, none⟩ = some (.int .i64 s.asks) ∧ w'.cell? ⟨RB, 0, none⟩ = some (.string ⟨#[]⟩) ∧ w'.cell? ⟨RB, 1, none⟩ = some (.string ⟨#[]⟩) ∧ Hid (w'.heap[UB]? = some (.cells #[.int .i64 s.prins, .int .i64 s.links, .int .i64 s.stmts, .int .i64 s.grow, .int .i64 s.shrink, .int .i64 s.asks] 32) ∧ w'.heap[RB]? = some (.cells #[.string ⟨#[]⟩, .string ⟨#[]⟩] 40))) := fun w' h0 h1 => ⟨(by rw [cell_of_heap h0]; rfl), (by rw [cell_of_heap h0]; rfl), (by rw [cell_of_heap h0]; rfl), (by rw [cell_of_heap h0]; rfl), (by rw [cell_of_heap h0]; rfl), (by rw [cell_of_heap h0]; rfl), (by rw [cell_of_heap h1]; rfl), (by rw [cell_of_heap h1]; rfl), Lib.hid ⟨h0, h1⟩⟩
      have hkd : Keeps (fun _ => False) w69 w69.drew := (Keeps.refl _ _).drew
      have HS79 := Lib.hid (((hkd).block _ (lt_of_heap HS71.out) (fun x => x)).trans HS71.out)
      have HU80 := Lib.hid (((hkd).block _ (lt_of_heap HU72.out) (fun x => x)).trans HU72.out)
      have HO81 := Lib.hid (((hkd).block _ (lt_of_heap HO73.out) (fun x => x)).trans HO73.out)
      have HR82 := Lib.hid (((hkd).block _ (lt_of_heap HR77.out) (fun x => x)).trans HR77.out)
      have HE83 := Lib.hid (StB.keeps HE74.out (hkd) (fun x => x))
      have HS84 := Lib.hid (HS75.out.keeps hkd (fun x => x))
      have HK85 := Lib.hid (HK76.out.drew)
      have hS0 := HMK78.out w69.drew HU80.out HR82.out
      clear hkd HS71 HU72 HO73 HR77 HE74 HS75 HK76
      refine wp_region_noPanic ?_
      refine wp_region_held_drew (S := (fun w' => w'.cell? ⟨UB, 0, none⟩ = some (.int .i64 s.prins) ∧ w'.cell? ⟨UB, 1, none⟩ = some (.int .i64 s.links) ∧ w'.cell? ⟨UB, 2, none⟩ = some (.int .i64 s.stmts) ∧ w'.cell? ⟨UB, 3, none⟩ = some (.int .i64 s.grow) ∧ w'.cell? ⟨UB, 4, none⟩ = some (.int .i64 s.shrink) ∧ w'.cell? ⟨UB, 5, none⟩ = some (.int .i64 s.asks) ∧ w'.cell? ⟨RB, 0, none⟩ = some (.string ⟨#[]⟩) ∧ w'.cell? ⟨RB, 1, none⟩ = some (.string ⟨#[]⟩) ∧ Hid (w'.heap[UB]? = some (.cells #[.int .i64 s.prins, .int .i64 s.links, .int .i64 s.stmts, .int .i64 s.grow, .int .i64 s.shrink, .int .i64 s.asks] 32) ∧ w'.heap[RB]? = some (.cells #[.string ⟨#[]⟩, .string ⟨#[]⟩] 40)))) (by kernel_rfl) hS0 (fun hHeld => ?_)
      clear hS0
      generalize w69.drew = w86 at *
      refine wpAnyH_take_at (i := 0) (v := ?v0_87) rfl (by kernel_rfl) (by kernel_rfl) (by kernel_rfl) (fun _ _ _ h => h) (Or.inl ⟨by rfl, ?y0_87⟩) hHeld ?r0_87
      case y0_87 => (intro w hSw; (try dsimp only at hSw); go_simp; first | done | with_reducible rfl)
      (try simp only [Act.put, nm1, nm2, nm3])
      refine wpAnyH_take_at (i := 1) (v := ?v1_88) rfl (by kernel_rfl) (by kernel_rfl) (by kernel_rfl) (fun _ _ _ h => h) (Or.inl ⟨by rfl, ?y1_88⟩) hHeld ?r1_88
      case y1_88 => (intro w hSw; (try dsimp only at hSw); go_simp; first | done | with_reducible rfl)
      (try simp only [Act.put, nm1, nm2, nm3])
      refine wpAnyH_take_at (i := 3) (v := ?v3_89) rfl (by kernel_rfl) (by kernel_rfl) (by kernel_rfl) (fun _ _ _ h => h) (Or.inl ⟨by rfl, ?y3_89⟩) hHeld ?r3_89
      case y3_89 => (intro w hSw; (try dsimp only at hSw); go_simp; first | done | with_reducible rfl)
      (try simp only [Act.put, nm1, nm2, nm3])
      refine wpAnyH_one (i := 2) (by kernel_rfl) rfl (fun KK hK => ?_)
      go_simp
      refine (HB.out _ HS84.out).mono ?_
      rintro e w90 ⟨rfl, hk⟩
      have HS91 := Lib.hid (((hk.out.2).block _ (lt_of_heap HS79.out) (by have := HN70.out; show ¬ _ = _; omega)).trans HS79.out)
      have HU92 := Lib.hid (((hk.out.2).block _ (lt_of_heap HU80.out) (by have := HN70.out; show ¬ _ = _; omega)).trans HU80.out)
      have HO93 := Lib.hid (((hk.out.2).block _ (lt_of_heap HO81.out) (by have := HN70.out; show ¬ _ = _; omega)).trans HO81.out)
      have HR94 := Lib.hid (((hk.out.2).block _ (lt_of_heap HR82.out) (by have := HN70.out; show ¬ _ = _; omega)).trans HR82.out)
      have HE95 := Lib.hid (StB.keeps HE83.out (hk.out.2) (by have := HN70.out; show ¬ _ = _; omega))
      have HS96 := Lib.hid (hk.out.1)
      have HK97 := Lib.hid (HK85.out.trans_new (hk.out.2) (fun q hq e => by have := HN70.out; omega))
      clear hk HB HS79 HU80 HO81 HR82 HE83 HS84 HK85
      go_simp
      refine hK.out _ _ ?s_98 (fun hHeld => ?_)
      case s_98 => exact HMK78.out _ HU92.out HR94.out
      clear hK KK
      (try simp only [Act.put, nm1, nm2, nm3])
      refine wpAnyH_one (i := 4) (by kernel_rfl) rfl (fun KK hK => ?_)
      go_simp
      refine hK.out _ _ ?s_99 (fun hHeld => ?_)
      case s_99 => exact HMK78.out _ HU92.out HR94.out
      clear hK KK
      (try simp only [Act.put, nm1, nm2, nm3])
      refine wpAnyH_one (i := 5) (by kernel_rfl) rfl (fun KK hK => ?_)
      go_simp
      refine hK.out _ _ ?s_100 (fun hHeld => ?_)
      case s_100 => exact HMK78.out _ HU92.out HR94.out
      clear hK KK
      (try simp only [Act.put, nm1, nm2, nm3])
      refine wpAnyH_done (by kernel_rfl) ?_ _
      refine NoPanic.normal ?_
      clear hHeld HMK78
      clear HEQ
      go_upto_region 37 with fail
      have HN2 : Hid (StB w90 67 bd y ∧ StB w90 30 bx y ∧ Keeps (fun _ => False) W w90 ∧ w90.heap[SB]? = some (.cells #[.int .i64 s.prins, .int .i64 s.links, .int .i64 s.stmts, .int .i64 s.grow, .int .i64 s.shrink, .int .i64 s.asks] 24) ∧ w90.heap[UB]? = some (.cells #[.int .i64 s.prins, .int .i64 s.links, .int .i64 s.stmts, .int .i64 s.grow, .int .i64 s.shrink, .int .i64 s.asks] 32)) := ⟨HS96.out, HE95.out, HK97.out, HS91.out, HU92.out⟩
      clear HS96 HE95 HK97 HS91 HU92
      go_wp2_with fail
      go_roundg (n - (i + 1))
      case measure => omega
      case rel => exact ⟨i + 1, y, by omega, hi4, rfl, by go_num, HN2⟩
     | true =>
      have HA : Hid (∀ W, StB W 30 bx y → Calls Tryz.prog 11 #[.pointer (some ⟨bx, 0, none⟩), .agg #[.int .i64 s.prins, .int .i64 s.links, .int .i64 s.stmts, .int .i64 s.grow, .int .i64 s.shrink, .int .i64 s.asks]] W (DrTo W 30 bx (rolV (rolD y s).1) (rolD y s).2)) := fun W h => HC2R.out HOK.out y W h
      have HB : Hid (∀ W, StB W 67 bd y → Calls Tryz.prog 12 #[.pointer (some ⟨bd, 0, none⟩), .agg #[.int .i64 s.prins, .int .i64 s.links, .int .i64 s.stmts, .int .i64 s.grow, .int .i64 s.shrink, .int .i64 s.asks]] W (DrTo W 67 bd (rolV (rolD y s).1) (rolD y s).2)) := fun W h => by
       have q := HC2D.out y W h
       unfold orD at q
       rw [if_pos HOK.out] at q
       exact q
      obtain ⟨⟨⟨a1, a2⟩, y2⟩, hq⟩ : ∃ q, rolD y s = q := ⟨_, rfl⟩
      rw [hq] at HA HB
      unfold rolV encStr8 at HA HB
      simp only at HA HB
      clear hq
      obtain ⟨Sc0, Sf0, Sc1, Sf1, Sc2, Sf2, Sc3, Sf3, Sc4, Sf4, Sc5, Sf5⟩ := cf6 HS71.out
      obtain ⟨Uc0, Uf0, Uc1, Uf1, Uc2, Uf2, Uc3, Uf3, Uc4, Uf4, Uc5, Uf5⟩ := cf6 HU72.out
      obtain ⟨Rc0, Rf0, Rc1, Rf1⟩ := cf2 HR77.out
      go_wp2_with fail
      refine (HA.out _ HE74.out).mono ?_
      rintro e w101 ⟨rfl, hk⟩
      have HS102 := Lib.hid (((hk.out.2).block _ (lt_of_heap HS71.out) (by have := HN70.out; show ¬ _ = _; omega)).trans HS71.out)
      have HU103 := Lib.hid (((hk.out.2).block _ (lt_of_heap HU72.out) (by have := HN70.out; show ¬ _ = _; omega)).trans HU72.out)
      have HO104 := Lib.hid (((hk.out.2).block _ (lt_of_heap HO73.out) (by have := HN70.out; show ¬ _ = _; omega)).trans HO73.out)
      have HR105 := Lib.hid (((hk.out.2).block _ (lt_of_heap HR77.out) (by have := HN70.out; show ¬ _ = _; omega)).trans HR77.out)
      have HE106 := Lib.hid (StB.keeps HS75.out (hk.out.2) (by have := HN70.out; show ¬ _ = _; omega))
      have HS107 := Lib.hid (hk.out.1)
      have HK108 := Lib.hid (HK76.out.trans_new hk.out.2 (fun q hq e => by have := HN70.out; omega))
      clear Sc0 Sf0 Sc1 Sf1 Sc2 Sf2 Sc3 Sf3 Sc4 Sf4 Sc5 Sf5 Uc0 Uf0 Uc1 Uf1 Uc2 Uf2 Uc3 Uf3 Uc4 Uf4 Uc5 Uf5 Rc0 Rf0 Rc1 Rf1
      clear hk HA HS71 HU72 HO73 HR77 HS75 HE74 HK76
      obtain ⟨Rc0, Rf0, Rc1, Rf1⟩ := cf2 HR105.out
      obtain ⟨hs0, hkE⟩ := sx2 HR105.out (.string ⟨a1.toArray⟩) (.string ⟨a2.toArray⟩)
      have HR110 := Lib.hid hs0
      have HS111 := Lib.hid (((hkE).block _ (lt_of_heap HS102.out) (by have := HN70.out; show ¬ _ = _; omega)).trans HS102.out)
      have HU112 := Lib.hid (((hkE).block _ (lt_of_heap HU103.out) (by have := HN70.out; show ¬ _ = _; omega)).trans HU103.out)
      have HO113 := Lib.hid (((hkE).block _ (lt_of_heap HO104.out) (by have := HN70.out; show ¬ _ = _; omega)).trans HO104.out)
      have HE114 := Lib.hid (StB.keeps HS107.out (hkE) (by have := HN70.out; show ¬ _ = _; omega))
      have HS115 := Lib.hid (HE106.out.keeps hkE (by have := HN70.out; show ¬ _ = _; omega))
      have HK116 := Lib.hid (HK108.out.trans_new hkE (fun q hq e => by have := HN70.out; omega))
      clear hkE hs0 HR105 HS102 HU103 HO104 HS107 HE106 HK108
      go_upto_region 26 with fail
      clear Rc0 Rf0 Rc1 Rf1
      generalize ((w101.setCell ⟨RB, 0, none⟩ (.string ⟨a1.toArray⟩)).setCell ⟨RB, 1, none⟩ (.string ⟨a2.toArray⟩)) = w109 at *
      have HEQ : ∀ w, (binOp .eql 40 (.agg #[.string ⟨a1.toArray⟩, .string ⟨a2.toArray⟩]) (.agg #[.string ⟨a1.toArray⟩, .string ⟨a2.toArray⟩])).run Tryz.prog w = .ok (.bool true) w := fun w => by
       have q := rol_eql (a1, a2) (a1, a2) w
       rw [decide_eq_true rfl] at q
       exact q
      have HMK117 : Hid (∀ w' : World, w'.heap[UB]? = some (.cells #[.int .i64 s.prins, .int .i64 s.links, .int .i64 s.stmts, .int .i64 s.grow, .int .i64 s.shrink, .int .i64 s.asks] 32) → w'.heap[RB]? = some (.cells #[.string ⟨a1.toArray⟩, .string ⟨a2.toArray⟩] 40) → w'.cell? ⟨UB, 0, none⟩ = some (.int .i64 s.prins) ∧ w'.cell? ⟨UB, 1, none⟩ = some (.int .i64 s.links) ∧ w'.cell? ⟨UB, 2, none⟩ = some (.int .i64 s.stmts) ∧ w'.cell? ⟨UB, 3, none⟩ = some (.int .i64 s.grow) ∧ w'.cell? ⟨UB, 4, none⟩ = some (.int .i64 s.shrink) ∧ w'.cell? ⟨UB, 5, none⟩ = some (.int .i64 s.asks) ∧ w'.cell? ⟨RB, 0, none⟩ = some (.string ⟨a1.toArray⟩) ∧ w'.cell? ⟨RB, 1, none⟩ = some (.string ⟨a2.toArray⟩) ∧ Hid (w'.heap[UB]? = some (.cells #[.int .i64 s.prins, .int .i64 s.links, .int .i64 s.stmts, .int .i64 s.grow, .int .i64 s.shrink, .int .i64 s.asks] 32) ∧ w'.heap[RB]? = some (.cells #[.string ⟨a1.toArray⟩, .string ⟨a2.toArray⟩] 40))) := fun w' h0 h1 => ⟨(by rw [cell_of_heap h0]; rfl), (by rw [cell_of_heap h0]; rfl), (by rw [cell_of_heap h0]; rfl), (by rw [cell_of_heap h0]; rfl), (by rw [cell_of_heap h0]; rfl), (by rw [cell_of_heap h0]; rfl), (by rw [cell_of_heap h1]; rfl), (by rw [cell_of_heap h1]; rfl), Lib.hid ⟨h0, h1⟩⟩
      have hkd : Keeps (fun _ => False) w109 w109.drew := (Keeps.refl _ _).drew
      have HS118 := Lib.hid (((hkd).block _ (lt_of_heap HS111.out) (fun x => x)).trans HS111.out)
      have HU119 := Lib.hid (((hkd).block _ (lt_of_heap HU112.out) (fun x => x)).trans HU112.out)
      have HO120 := Lib.hid (((hkd).block _ (lt_of_heap HO113.out) (fun x => x)).trans HO113.out)
      have HR121 := Lib.hid (((hkd).block _ (lt_of_heap HR110.out) (fun x => x)).trans HR110.out)
      have HE122 := Lib.hid (StB.keeps HE114.out (hkd) (fun x => x))
      have HS123 := Lib.hid (HS115.out.keeps hkd (fun x => x))
      have HK124 := Lib.hid (HK116.out.drew)
      have hS0 := HMK117.out w109.drew HU119.out HR121.out
      clear hkd HS111 HU112 HO113 HR110 HE114 HS115 HK116
      refine wp_region_noPanic ?_
      refine wp_region_held_drew (S := (fun w' => w'.cell? ⟨UB, 0, none⟩ = some (.int .i64 s.prins) ∧ w'.cell? ⟨UB, 1, none⟩ = some (.int .i64 s.links) ∧ w'.cell? ⟨UB, 2, none⟩ = some (.int .i64 s.stmts) ∧ w'.cell? ⟨UB, 3, none⟩ = some (.int .i64 s.grow) ∧ w'.cell? ⟨UB, 4, none⟩ = some (.int .i64 s.shrink) ∧ w'.cell? ⟨UB, 5, none⟩ = some (.int .i64 s.asks) ∧ w'.cell? ⟨RB, 0, none⟩ = some (.string ⟨a1.toArray⟩) ∧ w'.cell? ⟨RB, 1, none⟩ = some (.string ⟨a2.toArray⟩) ∧ Hid (w'.heap[UB]? = some (.cells #[.int .i64 s.prins, .int .i64 s.links, .int .i64 s.stmts, .int .i64 s.grow, .int .i64 s.shrink, .int .i64 s.asks] 32) ∧ w'.heap[RB]? = some (.cells #[.string ⟨a1.toArray⟩, .string ⟨a2.toArray⟩] 40)))) (by kernel_rfl) hS0 (fun hHeld => ?_)
      clear hS0
      generalize w109.drew = w125 at *
      refine wpAnyH_take_at (i := 0) (v := ?v0_126) rfl (by kernel_rfl) (by kernel_rfl) (by kernel_rfl) (fun _ _ _ h => h) (Or.inl ⟨by rfl, ?y0_126⟩) hHeld ?r0_126
      case y0_126 => (intro w hSw; (try dsimp only at hSw); go_simp; first | done | with_reducible rfl)
      (try simp only [Act.put, nm1, nm2, nm3])
      refine wpAnyH_take_at (i := 1) (v := ?v1_127) rfl (by kernel_rfl) (by kernel_rfl) (by kernel_rfl) (fun _ _ _ h => h) (Or.inl ⟨by rfl, ?y1_127⟩) hHeld ?r1_127
      case y1_127 => (intro w hSw; (try dsimp only at hSw); go_simp; first | done | with_reducible rfl)
      (try simp only [Act.put, nm1, nm2, nm3])
      refine wpAnyH_take_at (i := 3) (v := ?v3_128) rfl (by kernel_rfl) (by kernel_rfl) (by kernel_rfl) (fun _ _ _ h => h) (Or.inl ⟨by rfl, ?y3_128⟩) hHeld ?r3_128
      case y3_128 => (intro w hSw; (try dsimp only at hSw); go_simp; first | done | with_reducible rfl)
      (try simp only [Act.put, nm1, nm2, nm3])
      refine wpAnyH_one (i := 2) (by kernel_rfl) rfl (fun KK hK => ?_)
      go_simp
      refine (HB.out _ HS123.out).mono ?_
      rintro e w129 ⟨rfl, hk⟩
      have HS130 := Lib.hid (((hk.out.2).block _ (lt_of_heap HS118.out) (by have := HN70.out; show ¬ _ = _; omega)).trans HS118.out)
      have HU131 := Lib.hid (((hk.out.2).block _ (lt_of_heap HU119.out) (by have := HN70.out; show ¬ _ = _; omega)).trans HU119.out)
      have HO132 := Lib.hid (((hk.out.2).block _ (lt_of_heap HO120.out) (by have := HN70.out; show ¬ _ = _; omega)).trans HO120.out)
      have HR133 := Lib.hid (((hk.out.2).block _ (lt_of_heap HR121.out) (by have := HN70.out; show ¬ _ = _; omega)).trans HR121.out)
      have HE134 := Lib.hid (StB.keeps HE122.out (hk.out.2) (by have := HN70.out; show ¬ _ = _; omega))
      have HS135 := Lib.hid (hk.out.1)
      have HK136 := Lib.hid (HK124.out.trans_new (hk.out.2) (fun q hq e => by have := HN70.out; omega))
      clear hk HB HS118 HU119 HO120 HR121 HE122 HS123 HK124
      go_simp
      refine hK.out _ _ ?s_137 (fun hHeld => ?_)
      case s_137 => exact HMK117.out _ HU131.out HR133.out
      clear hK KK
      (try simp only [Act.put, nm1, nm2, nm3])
      refine wpAnyH_one (i := 4) (by kernel_rfl) rfl (fun KK hK => ?_)
      go_simp
      refine hK.out _ _ ?s_138 (fun hHeld => ?_)
      case s_138 => exact HMK117.out _ HU131.out HR133.out
      clear hK KK
      (try simp only [Act.put, nm1, nm2, nm3])
      refine wpAnyH_one (i := 5) (by kernel_rfl) rfl (fun KK hK => ?_)
      go_simp
      refine hK.out _ _ ?s_139 (fun hHeld => ?_)
      case s_139 => exact HMK117.out _ HU131.out HR133.out
      clear hK KK
      (try simp only [Act.put, nm1, nm2, nm3])
      refine wpAnyH_done (by kernel_rfl) ?_ _
      refine NoPanic.normal ?_
      clear hHeld HMK117
      clear HEQ
      go_upto_region 37 with fail
      have HN2 : Hid (StB w129 67 bd y2 ∧ StB w129 30 bx y2 ∧ Keeps (fun _ => False) W w129 ∧ w129.heap[SB]? = some (.cells #[.int .i64 s.prins, .int .i64 s.links, .int .i64 s.stmts, .int .i64 s.grow, .int .i64 s.shrink, .int .i64 s.asks] 24) ∧ w129.heap[UB]? = some (.cells #[.int .i64 s.prins, .int .i64 s.links, .int .i64 s.stmts, .int .i64 s.grow, .int .i64 s.shrink, .int .i64 s.asks] 32)) := ⟨HS135.out, HE134.out, HK136.out, HS130.out, HU131.out⟩
      clear HS135 HE134 HK136 HS130 HU131
      go_wp2_with fail
      go_roundg (n - (i + 1))
      case measure => omega
      case rel => exact ⟨i + 1, y2, by omega, hi4, rfl, by go_num, HN2⟩
    ·skip
     go_upto_region 28 with fail
     clear Oc0 Of0 Oc1 Of1
     have hal := (MapKept.heap_alloc w19 (.cells #[.int .i64 0, .string ⟨#[]⟩, .string ⟨#[]⟩, .string ⟨#[]⟩, .string ⟨#[]⟩, .string ⟨#[]⟩, .string ⟨#[]⟩, .string ⟨#[]⟩, .string ⟨#[]⟩] 44)).1
     have hkE : Keeps (fun _ => False) w19 (w19.alloc (.cells #[.int .i64 0, .string ⟨#[]⟩, .string ⟨#[]⟩, .string ⟨#[]⟩, .string ⟨#[]⟩, .string ⟨#[]⟩, .string ⟨#[]⟩, .string ⟨#[]⟩, .string ⟨#[]⟩] 44)) := (Keeps.refl _ _).alloc _
     obtain ⟨RB, hRB⟩ : ∃ q, w19.heap.size = q := ⟨_, rfl⟩
     rw [hRB] at hal
     have HS142 := Lib.hid (((hkE).block _ (lt_of_heap HS21.out) (fun x => x)).trans HS21.out)
     have HU143 := Lib.hid (((hkE).block _ (lt_of_heap HU22.out) (fun x => x)).trans HU22.out)
     have HO144 := Lib.hid (((hkE).block _ (lt_of_heap HO26.out) (fun x => x)).trans HO26.out)
     have HE145 := Lib.hid (StB.keeps HE23.out (hkE) (fun x => x))
     have HN141 : Hid ((((W.heap.size ≤ SB ∧ SB < bd ∧ bd < bx) ∧ W.heap.size ≤ UB ∧ SB < UB ∧ bd < UB ∧ bx < UB) ∧ W.heap.size ≤ OB ∧ SB < OB ∧ UB < OB ∧ bd < OB ∧ bx < OB) ∧ W.heap.size ≤ RB ∧ SB < RB ∧ UB < RB ∧ OB < RB ∧ bd < RB ∧ bx < RB) := ⟨HN20.out, by
      have hz := HK25.out.size
      have l0 := lt_of_heap HS21.out
      have l1 := lt_of_heap HU22.out
      have l2 := lt_of_heap HO26.out
      have ls := lt_of_heap HS24.out.1
      have lx0 := lt_of_heap HE23.out.1
      refine ⟨?_, ?_, ?_, ?_, ?_, ?_⟩ <;> omega⟩
     have HS146 := Lib.hid (HS24.out.keeps hkE (fun x => x))
     have HK147 := Lib.hid (HK25.out.trans hkE)
     have HR148 := Lib.hid hal
     clear hkE hal HS21 HU22 HO26 HE23 HN20 HS24 HK25
     go_upto_region 29 with fail
     clear hRB
     generalize (w19.alloc (.cells #[.int .i64 0, .string ⟨#[]⟩, .string ⟨#[]⟩, .string ⟨#[]⟩, .string ⟨#[]⟩, .string ⟨#[]⟩, .string ⟨#[]⟩, .string ⟨#[]⟩, .string ⟨#[]⟩] 44)) = w140 at *
     cases ok with
     | false =>
      have HB : Hid (∀ W, StB W 67 bd y → Calls Tryz.prog 14 #[.pointer (some ⟨bd, 0, none⟩), .agg #[.int .i64 s.prins, .int .i64 s.links, .int .i64 s.stmts, .int .i64 s.grow, .int .i64 s.shrink, .int .i64 s.asks]] W (DrTo W 67 bd (.agg #[.int .i64 0, .string ⟨#[]⟩, .string ⟨#[]⟩, .string ⟨#[]⟩, .string ⟨#[]⟩, .string ⟨#[]⟩, .string ⟨#[]⟩, .string ⟨#[]⟩, .string ⟨#[]⟩]) y)) := fun W h => by
       have q := HC3D.out y W h
       unfold orD at q
       rw [if_neg (by rw [HOK.out]; decide)] at q
       exact q
      obtain ⟨Sc0, Sf0, Sc1, Sf1, Sc2, Sf2, Sc3, Sf3, Sc4, Sf4, Sc5, Sf5⟩ := cf6 HS142.out
      obtain ⟨Uc0, Uf0, Uc1, Uf1, Uc2, Uf2, Uc3, Uf3, Uc4, Uf4, Uc5, Uf5⟩ := cf6 HU143.out
      obtain ⟨Rc0, Rf0, Rc1, Rf1, Rc2, Rf2, Rc3, Rf3, Rc4, Rf4, Rc5, Rf5, Rc6, Rf6, Rc7, Rf7, Rc8, Rf8⟩ := cf9 HR148.out
      go_upto_region 31 with fail
      clear Sc0 Sf0 Sc1 Sf1 Sc2 Sf2 Sc3 Sf3 Sc4 Sf4 Sc5 Sf5 Uc0 Uf0 Uc1 Uf1 Uc2 Uf2 Uc3 Uf3 Uc4 Uf4 Uc5 Uf5 Rc0 Rf0 Rc1 Rf1 Rc2 Rf2 Rc3 Rf3 Rc4 Rf4 Rc5 Rf5 Rc6 Rf6 Rc7 Rf7 Rc8 Rf8
      have HEQ : ∀ w, (binOp .eql 44 (.agg #[.int .i64 0, .string ⟨#[]⟩, .string ⟨#[]⟩, .string ⟨#[]⟩, .string ⟨#[]⟩, .string ⟨#[]⟩, .string ⟨#[]⟩, .string ⟨#[]⟩, .string ⟨#[]⟩]) (.agg #[.int .i64 0, .string ⟨#[]⟩, .string ⟨#[]⟩, .string ⟨#[]⟩, .string ⟨#[]⟩, .string ⟨#[]⟩, .string ⟨#[]⟩, .string ⟨#[]⟩, .string ⟨#[]⟩])).run Tryz.prog w = .ok (.bool true) w := fun w => by
       have q := stm_eql noStm noStm w
       rw [decide_eq_true rfl] at q
       exact q
      have HMK149 : Hid (∀ w' : World, w'.heap[UB]? = some (.cells #[.int .i64 s.prins, .int .i64 s.links, .int .i64 s.stmts, .int .i64 s.grow, .int .i64 s.shrink, .int .i64 s.asks] 32) → w'.heap[RB]? = some (.cells #[.int .i64 0, .string ⟨#[]⟩, .string ⟨#[]⟩, .string ⟨#[]⟩, .string ⟨#[]⟩, .string ⟨#[]⟩, .string ⟨#[]⟩, .string ⟨#[]⟩, .string ⟨#[]⟩] 44) → w'.cell? ⟨UB, 0, none⟩ = some (.int .i64 s.prins) ∧ w'.cell? ⟨UB, 1, none⟩ = some (.int .i64 s.links) ∧ w'.cell? ⟨UB, 2, none⟩ = some (.int .i64 s.stmts) ∧ w'.cell? ⟨UB, 3, none⟩ = some (.int .i64 s.grow) ∧ w'.cell? ⟨UB, 4, none⟩ = some (.int .i64 s.shrink) ∧ w'.cell? ⟨UB, 5, none⟩ = some (.int .i64 s.asks) ∧ w'.cell? ⟨RB, 0, none⟩ = some (.int .i64 0) ∧ w'.cell? ⟨RB, 1, none⟩ = some (.string ⟨#[]⟩) ∧ w'.cell? ⟨RB, 2, none⟩ = some (.string ⟨#[]⟩) ∧ w'.cell? ⟨RB, 3, none⟩ = some (.string ⟨#[]⟩) ∧ w'.cell? ⟨RB, 4, none⟩ = some (.string ⟨#[]⟩) ∧ w'.cell? ⟨RB, 5, none⟩ = some (.string ⟨#[]⟩) ∧ w'.cell? ⟨RB, 6, none⟩ = some (.string ⟨#[]⟩) ∧ w'.cell? ⟨RB, 7, none⟩ = some (.string ⟨#[]⟩) ∧ w'.cell? ⟨RB, 8, none⟩ = some (.string ⟨#[]⟩) ∧ Hid (w'.heap[UB]? = some (.cells #[.int .i64 s.prins, .int .i64 s.links, .int .i64 s.stmts, .int .i64 s.grow, .int .i64 s.shrink, .int .i64 s.asks] 32) ∧ w'.heap[RB]? = some (.cells #[.int .i64 0, .string ⟨#[]⟩, .string ⟨#[]⟩, .string ⟨#[]⟩, .string ⟨#[]⟩, .string ⟨#[]⟩, .string ⟨#[]⟩, .string ⟨#[]⟩, .string ⟨#[]⟩] 44))) := fun w' h0 h1 => ⟨(by rw [cell_of_heap h0]; rfl), (by rw [cell_of_heap h0]; rfl), (by rw [cell_of_heap h0]; rfl), (by rw [cell_of_heap h0]; rfl), (by rw [cell_of_heap h0]; rfl), (by rw [cell_of_heap h0]; rfl), (by rw [cell_of_heap h1]; rfl), (by rw [cell_of_heap h1]; rfl), (by rw [cell_of_heap h1]; rfl), (by rw [cell_of_heap h1]; rfl), (by rw [cell_of_heap h1]; rfl), (by rw [cell_of_heap h1]; rfl), (by rw [cell_of_heap h1]; rfl), (by rw [cell_of_heap h1]; rfl), (by rw [cell_of_heap h1]; rfl), Lib.hid ⟨h0, h1⟩⟩
      have hkd : Keeps (fun _ => False) w140 w140.drew := (Keeps.refl _ _).drew
      have HS150 := Lib.hid (((hkd).block _ (lt_of_heap HS142.out) (fun x => x)).trans HS142.out)
      have HU151 := Lib.hid (((hkd).block _ (lt_of_heap HU143.out) (fun x => x)).trans HU143.out)
      have HO152 := Lib.hid (((hkd).block _ (lt_of_heap HO144.out) (fun x => x)).trans HO144.out)
      have HR153 := Lib.hid (((hkd).block _ (lt_of_heap HR148.out) (fun x => x)).trans HR148.out)
      have HE154 := Lib.hid (StB.keeps HE145.out (hkd) (fun x => x))
      have HS155 := Lib.hid (HS146.out.keeps hkd (fun x => x))
      have HK156 := Lib.hid (HK147.out.drew)
      have hS0 := HMK149.out w140.drew HU151.out HR153.out
      clear hkd HS142 HU143 HO144 HR148 HE145 HS146 HK147
      refine wp_region_noPanic ?_
      refine wp_region_held_drew (S := (fun w' => w'.cell? ⟨UB, 0, none⟩ = some (.int .i64 s.prins) ∧ w'.cell? ⟨UB, 1, none⟩ = some (.int .i64 s.links) ∧ w'.cell? ⟨UB, 2, none⟩ = some (.int .i64 s.stmts) ∧ w'.cell? ⟨UB, 3, none⟩ = some (.int .i64 s.grow) ∧ w'.cell? ⟨UB, 4, none⟩ = some (.int .i64 s.shrink) ∧ w'.cell? ⟨UB, 5, none⟩ = some (.int .i64 s.asks) ∧ w'.cell? ⟨RB, 0, none⟩ = some (.int .i64 0) ∧ w'.cell? ⟨RB, 1, none⟩ = some (.string ⟨#[]⟩) ∧ w'.cell? ⟨RB, 2, none⟩ = some (.string ⟨#[]⟩) ∧ w'.cell? ⟨RB, 3, none⟩ = some (.string ⟨#[]⟩) ∧ w'.cell? ⟨RB, 4, none⟩ = some (.string ⟨#[]⟩) ∧ w'.cell? ⟨RB, 5, none⟩ = some (.string ⟨#[]⟩) ∧ w'.cell? ⟨RB, 6, none⟩ = some (.string ⟨#[]⟩) ∧ w'.cell? ⟨RB, 7, none⟩ = some (.string ⟨#[]⟩) ∧ w'.cell? ⟨RB, 8, none⟩ = some (.string ⟨#[]⟩) ∧ Hid (w'.heap[UB]? = some (.cells #[.int .i64 s.prins, .int .i64 s.links, .int .i64 s.stmts, .int .i64 s.grow, .int .i64 s.shrink, .int .i64 s.asks] 32) ∧ w'.heap[RB]? = some (.cells #[.int .i64 0, .string ⟨#[]⟩, .string ⟨#[]⟩, .string ⟨#[]⟩, .string ⟨#[]⟩, .string ⟨#[]⟩, .string ⟨#[]⟩, .string ⟨#[]⟩, .string ⟨#[]⟩] 44)))) (by kernel_rfl) hS0 (fun hHeld => ?_)
      clear hS0
      generalize w140.drew = w157 at *
      refine wpAnyH_take_at (i := 0) (v := ?v0_158) rfl (by kernel_rfl) (by kernel_rfl) (by kernel_rfl) (fun _ _ _ h => h) (Or.inl ⟨by rfl, ?y0_158⟩) hHeld ?r0_158
      case y0_158 => (intro w hSw; (try dsimp only at hSw); go_simp; first | done | with_reducible rfl)
      (try simp only [Act.put, nm1, nm2, nm3])
      refine wpAnyH_take_at (i := 1) (v := ?v1_159) rfl (by kernel_rfl) (by kernel_rfl) (by kernel_rfl) (fun _ _ _ h => h) (Or.inl ⟨by rfl, ?y1_159⟩) hHeld ?r1_159
      case y1_159 => (intro w hSw; (try dsimp only at hSw); go_simp; first | done | with_reducible rfl)
      (try simp only [Act.put, nm1, nm2, nm3])
      refine wpAnyH_take_at (i := 3) (v := ?v3_160) rfl (by kernel_rfl) (by kernel_rfl) (by kernel_rfl) (fun _ _ _ h => h) (Or.inl ⟨by rfl, ?y3_160⟩) hHeld ?r3_160
      case y3_160 => (intro w hSw; (try dsimp only at hSw); go_simp; first | done | with_reducible rfl)
      (try simp only [Act.put, nm1, nm2, nm3])
      refine wpAnyH_one (i := 2) (by kernel_rfl) rfl (fun KK hK => ?_)
      go_simp
      refine (HB.out _ HS155.out).mono ?_
      rintro e w161 ⟨rfl, hk⟩
      have HS162 := Lib.hid (((hk.out.2).block _ (lt_of_heap HS150.out) (by have := HN141.out; show ¬ _ = _; omega)).trans HS150.out)
      have HU163 := Lib.hid (((hk.out.2).block _ (lt_of_heap HU151.out) (by have := HN141.out; show ¬ _ = _; omega)).trans HU151.out)
      have HO164 := Lib.hid (((hk.out.2).block _ (lt_of_heap HO152.out) (by have := HN141.out; show ¬ _ = _; omega)).trans HO152.out)
      have HR165 := Lib.hid (((hk.out.2).block _ (lt_of_heap HR153.out) (by have := HN141.out; show ¬ _ = _; omega)).trans HR153.out)
      have HE166 := Lib.hid (StB.keeps HE154.out (hk.out.2) (by have := HN141.out; show ¬ _ = _; omega))
      have HS167 := Lib.hid (hk.out.1)
      have HK168 := Lib.hid (HK156.out.trans_new (hk.out.2) (fun q hq e => by have := HN141.out; omega))
      clear hk HB HS150 HU151 HO152 HR153 HE154 HS155 HK156
      go_simp
      refine hK.out _ _ ?s_169 (fun hHeld => ?_)
      case s_169 => exact HMK149.out _ HU163.out HR165.out
      clear hK KK
      (try simp only [Act.put, nm1, nm2, nm3])
      refine wpAnyH_one (i := 4) (by kernel_rfl) rfl (fun KK hK => ?_)
      go_simp
      refine hK.out _ _ ?s_170 (fun hHeld => ?_)
      case s_170 => exact HMK149.out _ HU163.out HR165.out
      clear hK KK
      (try simp only [Act.put, nm1, nm2, nm3])
      refine wpAnyH_one (i := 5) (by kernel_rfl) rfl (fun KK hK => ?_)
      go_simp
      refine hK.out _ _ ?s_171 (fun hHeld => ?_)
      case s_171 => exact HMK149.out _ HU163.out HR165.out
      clear hK KK
      (try simp only [Act.put, nm1, nm2, nm3])
      refine wpAnyH_done (by kernel_rfl) ?_ _
      refine NoPanic.normal ?_
      clear hHeld HMK149
      clear HEQ
      go_upto_region 37 with fail
      have HN2 : Hid (StB w161 67 bd y ∧ StB w161 30 bx y ∧ Keeps (fun _ => False) W w161 ∧ w161.heap[SB]? = some (.cells #[.int .i64 s.prins, .int .i64 s.links, .int .i64 s.stmts, .int .i64 s.grow, .int .i64 s.shrink, .int .i64 s.asks] 24) ∧ w161.heap[UB]? = some (.cells #[.int .i64 s.prins, .int .i64 s.links, .int .i64 s.stmts, .int .i64 s.grow, .int .i64 s.shrink, .int .i64 s.asks] 32)) := ⟨HS167.out, HE166.out, HK168.out, HS162.out, HU163.out⟩
      clear HS167 HE166 HK168 HS162 HU163
      go_wp2_with fail
      go_roundg (n - (i + 1))
      case measure => omega
      case rel => exact ⟨i + 1, y, by omega, hi4, rfl, by go_num, HN2⟩
     | true =>
      have HA : Hid (∀ W, StB W 30 bx y → Calls Tryz.prog 13 #[.pointer (some ⟨bx, 0, none⟩), .agg #[.int .i64 s.prins, .int .i64 s.links, .int .i64 s.stmts, .int .i64 s.grow, .int .i64 s.shrink, .int .i64 s.asks]] W (DrTo W 30 bx (stmV (stmD y s).1) (stmD y s).2)) := fun W h => HC3R.out HOK.out y W h
      have HB : Hid (∀ W, StB W 67 bd y → Calls Tryz.prog 14 #[.pointer (some ⟨bd, 0, none⟩), .agg #[.int .i64 s.prins, .int .i64 s.links, .int .i64 s.stmts, .int .i64 s.grow, .int .i64 s.shrink, .int .i64 s.asks]] W (DrTo W 67 bd (stmV (stmD y s).1) (stmD y s).2)) := fun W h => by
       have q := HC3D.out y W h
       unfold orD at q
       rw [if_pos HOK.out] at q
       exact q
      obtain ⟨⟨nn, y2⟩, hq⟩ : ∃ q, stmD y s = q := ⟨_, rfl⟩
      rw [hq] at HA HB
      obtain ⟨⟨nh1, nh2⟩, nk, no, ⟨na1, na2⟩, ⟨nb1, nb2⟩, ni⟩ := nn
      unfold stmV at HA HB
      simp only at HA HB
      clear hq
      obtain ⟨Sc0, Sf0, Sc1, Sf1, Sc2, Sf2, Sc3, Sf3, Sc4, Sf4, Sc5, Sf5⟩ := cf6 HS142.out
      obtain ⟨Uc0, Uf0, Uc1, Uf1, Uc2, Uf2, Uc3, Uf3, Uc4, Uf4, Uc5, Uf5⟩ := cf6 HU143.out
      obtain ⟨Rc0, Rf0, Rc1, Rf1, Rc2, Rf2, Rc3, Rf3, Rc4, Rf4, Rc5, Rf5, Rc6, Rf6, Rc7, Rf7, Rc8, Rf8⟩ := cf9 HR148.out
      go_wp2_with fail
      refine (HA.out _ HE145.out).mono ?_
      rintro e w172 ⟨rfl, hk⟩
      have HS173 := Lib.hid (((hk.out.2).block _ (lt_of_heap HS142.out) (by have := HN141.out; show ¬ _ = _; omega)).trans HS142.out)
      have HU174 := Lib.hid (((hk.out.2).block _ (lt_of_heap HU143.out) (by have := HN141.out; show ¬ _ = _; omega)).trans HU143.out)
      have HO175 := Lib.hid (((hk.out.2).block _ (lt_of_heap HO144.out) (by have := HN141.out; show ¬ _ = _; omega)).trans HO144.out)
      have HR176 := Lib.hid (((hk.out.2).block _ (lt_of_heap HR148.out) (by have := HN141.out; show ¬ _ = _; omega)).trans HR148.out)
      have HE177 := Lib.hid (StB.keeps HS146.out (hk.out.2) (by have := HN141.out; show ¬ _ = _; omega))
      have HS178 := Lib.hid (hk.out.1)
      have HK179 := Lib.hid (HK147.out.trans_new hk.out.2 (fun q hq e => by have := HN141.out; omega))
      clear Sc0 Sf0 Sc1 Sf1 Sc2 Sf2 Sc3 Sf3 Sc4 Sf4 Sc5 Sf5 Uc0 Uf0 Uc1 Uf1 Uc2 Uf2 Uc3 Uf3 Uc4 Uf4 Uc5 Uf5 Rc0 Rf0 Rc1 Rf1 Rc2 Rf2 Rc3 Rf3 Rc4 Rf4 Rc5 Rf5 Rc6 Rf6 Rc7 Rf7 Rc8 Rf8
      clear hk HA HS142 HU143 HO144 HR148 HS146 HE145 HK147
      obtain ⟨Rc0, Rf0, Rc1, Rf1, Rc2, Rf2, Rc3, Rf3, Rc4, Rf4, Rc5, Rf5, Rc6, Rf6, Rc7, Rf7, Rc8, Rf8⟩ := cf9 HR176.out
      obtain ⟨hs0, hkE⟩ := sx9 HR176.out (.int .i64 nk) (.string ⟨nh1.toArray⟩) (.string ⟨nh2.toArray⟩) (.string ⟨no.toArray⟩) (.string ⟨na1.toArray⟩) (.string ⟨na2.toArray⟩) (.string ⟨nb1.toArray⟩) (.string ⟨nb2.toArray⟩) (.string ⟨ni.toArray⟩)
      have HR181 := Lib.hid hs0
      have HS182 := Lib.hid (((hkE).block _ (lt_of_heap HS173.out) (by have := HN141.out; show ¬ _ = _; omega)).trans HS173.out)
      have HU183 := Lib.hid (((hkE).block _ (lt_of_heap HU174.out) (by have := HN141.out; show ¬ _ = _; omega)).trans HU174.out)
      have HO184 := Lib.hid (((hkE).block _ (lt_of_heap HO175.out) (by have := HN141.out; show ¬ _ = _; omega)).trans HO175.out)
      have HE185 := Lib.hid (StB.keeps HS178.out (hkE) (by have := HN141.out; show ¬ _ = _; omega))
      have HS186 := Lib.hid (HE177.out.keeps hkE (by have := HN141.out; show ¬ _ = _; omega))
      have HK187 := Lib.hid (HK179.out.trans_new hkE (fun q hq e => by have := HN141.out; omega))
      clear hkE hs0 HR176 HS173 HU174 HO175 HS178 HE177 HK179
      go_upto_region 31 with fail
      clear Rc0 Rf0 Rc1 Rf1 Rc2 Rf2 Rc3 Rf3 Rc4 Rf4 Rc5 Rf5 Rc6 Rf6 Rc7 Rf7 Rc8 Rf8
      generalize (((((((((w172.setCell ⟨RB, 0, none⟩ (.int .i64 nk)).setCell ⟨RB, 1, none⟩ (.string ⟨nh1.toArray⟩)).setCell ⟨RB, 2, none⟩ (.string ⟨nh2.toArray⟩)).setCell ⟨RB, 3, none⟩ (.string ⟨no.toArray⟩)).setCell ⟨RB, 4, none⟩ (.string ⟨na1.toArray⟩)).setCell ⟨RB, 5, none⟩ (.string ⟨na2.toArray⟩)).setCell ⟨RB, 6, none⟩ (.string ⟨nb1.toArray⟩)).setCell ⟨RB, 7, none⟩ (.string ⟨nb2.toArray⟩)).setCell ⟨RB, 8, none⟩ (.string ⟨ni.toArray⟩)) = w180 at *
      have HEQ : ∀ w, (binOp .eql 44 (.agg #[.int .i64 nk, .string ⟨nh1.toArray⟩, .string ⟨nh2.toArray⟩, .string ⟨no.toArray⟩, .string ⟨na1.toArray⟩, .string ⟨na2.toArray⟩, .string ⟨nb1.toArray⟩, .string ⟨nb2.toArray⟩, .string ⟨ni.toArray⟩]) (.agg #[.int .i64 nk, .string ⟨nh1.toArray⟩, .string ⟨nh2.toArray⟩, .string ⟨no.toArray⟩, .string ⟨na1.toArray⟩, .string ⟨na2.toArray⟩, .string ⟨nb1.toArray⟩, .string ⟨nb2.toArray⟩, .string ⟨ni.toArray⟩])).run Tryz.prog w = .ok (.bool true) w := fun w => by
       have q := stm_eql ((nh1, nh2), nk, no, (na1, na2), (nb1, nb2), ni) ((nh1, nh2), nk, no, (na1, na2), (nb1, nb2), ni) w
       rw [decide_eq_true rfl] at q
       exact q
      have HMK188 : Hid (∀ w' : World, w'.heap[UB]? = some (.cells #[.int .i64 s.prins, .int .i64 s.links, .int .i64 s.stmts, .int .i64 s.grow, .int .i64 s.shrink, .int .i64 s.asks] 32) → w'.heap[RB]? = some (.cells #[.int .i64 nk, .string ⟨nh1.toArray⟩, .string ⟨nh2.toArray⟩, .string ⟨no.toArray⟩, .string ⟨na1.toArray⟩, .string ⟨na2.toArray⟩, .string ⟨nb1.toArray⟩, .string ⟨nb2.toArray⟩, .string ⟨ni.toArray⟩] 44) → w'.cell? ⟨UB, 0, none⟩ = some (.int .i64 s.prins) ∧ w'.cell? ⟨UB, 1, none⟩ = some (.int .i64 s.links) ∧ w'.cell? ⟨UB, 2, none⟩ = some (.int .i64 s.stmts) ∧ w'.cell? ⟨UB, 3, none⟩ = some (.int .i64 s.grow) ∧ w'.cell? ⟨UB, 4, none⟩ = some (.int .i64 s.shrink) ∧ w'.cell? ⟨UB, 5, none⟩ = some (.int .i64 s.asks) ∧ w'.cell? ⟨RB, 0, none⟩ = some (.int .i64 nk) ∧ w'.cell? ⟨RB, 1, none⟩ = some (.string ⟨nh1.toArray⟩) ∧ w'.cell? ⟨RB, 2, none⟩ = some (.string ⟨nh2.toArray⟩) ∧ w'.cell? ⟨RB, 3, none⟩ = some (.string ⟨no.toArray⟩) ∧ w'.cell? ⟨RB, 4, none⟩ = some (.string ⟨na1.toArray⟩) ∧ w'.cell? ⟨RB, 5, none⟩ = some (.string ⟨na2.toArray⟩) ∧ w'.cell? ⟨RB, 6, none⟩ = some (.string ⟨nb1.toArray⟩) ∧ w'.cell? ⟨RB, 7, none⟩ = some (.string ⟨nb2.toArray⟩) ∧ w'.cell? ⟨RB, 8, none⟩ = some (.string ⟨ni.toArray⟩) ∧ Hid (w'.heap[UB]? = some (.cells #[.int .i64 s.prins, .int .i64 s.links, .int .i64 s.stmts, .int .i64 s.grow, .int .i64 s.shrink, .int .i64 s.asks] 32) ∧ w'.heap[RB]? = some (.cells #[.int .i64 nk, .string ⟨nh1.toArray⟩, .string ⟨nh2.toArray⟩, .string ⟨no.toArray⟩, .string ⟨na1.toArray⟩, .string ⟨na2.toArray⟩, .string ⟨nb1.toArray⟩, .string ⟨nb2.toArray⟩, .string ⟨ni.toArray⟩] 44))) := fun w' h0 h1 => ⟨(by rw [cell_of_heap h0]; rfl), (by rw [cell_of_heap h0]; rfl), (by rw [cell_of_heap h0]; rfl), (by rw [cell_of_heap h0]; rfl), (by rw [cell_of_heap h0]; rfl), (by rw [cell_of_heap h0]; rfl), (by rw [cell_of_heap h1]; rfl), (by rw [cell_of_heap h1]; rfl), (by rw [cell_of_heap h1]; rfl), (by rw [cell_of_heap h1]; rfl), (by rw [cell_of_heap h1]; rfl), (by rw [cell_of_heap h1]; rfl), (by rw [cell_of_heap h1]; rfl), (by rw [cell_of_heap h1]; rfl), (by rw [cell_of_heap h1]; rfl), Lib.hid ⟨h0, h1⟩⟩
      have hkd : Keeps (fun _ => False) w180 w180.drew := (Keeps.refl _ _).drew
      have HS189 := Lib.hid (((hkd).block _ (lt_of_heap HS182.out) (fun x => x)).trans HS182.out)
      have HU190 := Lib.hid (((hkd).block _ (lt_of_heap HU183.out) (fun x => x)).trans HU183.out)
      have HO191 := Lib.hid (((hkd).block _ (lt_of_heap HO184.out) (fun x => x)).trans HO184.out)
      have HR192 := Lib.hid (((hkd).block _ (lt_of_heap HR181.out) (fun x => x)).trans HR181.out)
      have HE193 := Lib.hid (StB.keeps HE185.out (hkd) (fun x => x))
      have HS194 := Lib.hid (HS186.out.keeps hkd (fun x => x))
      have HK195 := Lib.hid (HK187.out.drew)
      have hS0 := HMK188.out w180.drew HU190.out HR192.out
      clear hkd HS182 HU183 HO184 HR181 HE185 HS186 HK187
      refine wp_region_noPanic ?_
      refine wp_region_held_drew (S := (fun w' => w'.cell? ⟨UB, 0, none⟩ = some (.int .i64 s.prins) ∧ w'.cell? ⟨UB, 1, none⟩ = some (.int .i64 s.links) ∧ w'.cell? ⟨UB, 2, none⟩ = some (.int .i64 s.stmts) ∧ w'.cell? ⟨UB, 3, none⟩ = some (.int .i64 s.grow) ∧ w'.cell? ⟨UB, 4, none⟩ = some (.int .i64 s.shrink) ∧ w'.cell? ⟨UB, 5, none⟩ = some (.int .i64 s.asks) ∧ w'.cell? ⟨RB, 0, none⟩ = some (.int .i64 nk) ∧ w'.cell? ⟨RB, 1, none⟩ = some (.string ⟨nh1.toArray⟩) ∧ w'.cell? ⟨RB, 2, none⟩ = some (.string ⟨nh2.toArray⟩) ∧ w'.cell? ⟨RB, 3, none⟩ = some (.string ⟨no.toArray⟩) ∧ w'.cell? ⟨RB, 4, none⟩ = some (.string ⟨na1.toArray⟩) ∧ w'.cell? ⟨RB, 5, none⟩ = some (.string ⟨na2.toArray⟩) ∧ w'.cell? ⟨RB, 6, none⟩ = some (.string ⟨nb1.toArray⟩) ∧ w'.cell? ⟨RB, 7, none⟩ = some (.string ⟨nb2.toArray⟩) ∧ w'.cell? ⟨RB, 8, none⟩ = some (.string ⟨ni.toArray⟩) ∧ Hid (w'.heap[UB]? = some (.cells #[.int .i64 s.prins, .int .i64 s.links, .int .i64 s.stmts, .int .i64 s.grow, .int .i64 s.shrink, .int .i64 s.asks] 32) ∧ w'.heap[RB]? = some (.cells #[.int .i64 nk, .string ⟨nh1.toArray⟩, .string ⟨nh2.toArray⟩, .string ⟨no.toArray⟩, .string ⟨na1.toArray⟩, .string ⟨na2.toArray⟩, .string ⟨nb1.toArray⟩, .string ⟨nb2.toArray⟩, .string ⟨ni.toArray⟩] 44)))) (by kernel_rfl) hS0 (fun hHeld => ?_)
      clear hS0
      generalize w180.drew = w196 at *
      refine wpAnyH_take_at (i := 0) (v := ?v0_197) rfl (by kernel_rfl) (by kernel_rfl) (by kernel_rfl) (fun _ _ _ h => h) (Or.inl ⟨by rfl, ?y0_197⟩) hHeld ?r0_197
      case y0_197 => (intro w hSw; (try dsimp only at hSw); go_simp; first | done | with_reducible rfl)
      (try simp only [Act.put, nm1, nm2, nm3])
      refine wpAnyH_take_at (i := 1) (v := ?v1_198) rfl (by kernel_rfl) (by kernel_rfl) (by kernel_rfl) (fun _ _ _ h => h) (Or.inl ⟨by rfl, ?y1_198⟩) hHeld ?r1_198
      case y1_198 => (intro w hSw; (try dsimp only at hSw); go_simp; first | done | with_reducible rfl)
      (try simp only [Act.put, nm1, nm2, nm3])
      refine wpAnyH_take_at (i := 3) (v := ?v3_199) rfl (by kernel_rfl) (by kernel_rfl) (by kernel_rfl) (fun _ _ _ h => h) (Or.inl ⟨by rfl, ?y3_199⟩) hHeld ?r3_199
      case y3_199 => (intro w hSw; (try dsimp only at hSw); go_simp; first | done | with_reducible rfl)
      (try simp only [Act.put, nm1, nm2, nm3])
      refine wpAnyH_one (i := 2) (by kernel_rfl) rfl (fun KK hK => ?_)
      go_simp
      refine (HB.out _ HS194.out).mono ?_
      rintro e w200 ⟨rfl, hk⟩
      have HS201 := Lib.hid (((hk.out.2).block _ (lt_of_heap HS189.out) (by have := HN141.out; show ¬ _ = _; omega)).trans HS189.out)
      have HU202 := Lib.hid (((hk.out.2).block _ (lt_of_heap HU190.out) (by have := HN141.out; show ¬ _ = _; omega)).trans HU190.out)
      have HO203 := Lib.hid (((hk.out.2).block _ (lt_of_heap HO191.out) (by have := HN141.out; show ¬ _ = _; omega)).trans HO191.out)
      have HR204 := Lib.hid (((hk.out.2).block _ (lt_of_heap HR192.out) (by have := HN141.out; show ¬ _ = _; omega)).trans HR192.out)
      have HE205 := Lib.hid (StB.keeps HE193.out (hk.out.2) (by have := HN141.out; show ¬ _ = _; omega))
      have HS206 := Lib.hid (hk.out.1)
      have HK207 := Lib.hid (HK195.out.trans_new (hk.out.2) (fun q hq e => by have := HN141.out; omega))
      clear hk HB HS189 HU190 HO191 HR192 HE193 HS194 HK195
      go_simp
      refine hK.out _ _ ?s_208 (fun hHeld => ?_)
      case s_208 => exact HMK188.out _ HU202.out HR204.out
      clear hK KK
      (try simp only [Act.put, nm1, nm2, nm3])
      refine wpAnyH_one (i := 4) (by kernel_rfl) rfl (fun KK hK => ?_)
      go_simp
      refine hK.out _ _ ?s_209 (fun hHeld => ?_)
      case s_209 => exact HMK188.out _ HU202.out HR204.out
      clear hK KK
      (try simp only [Act.put, nm1, nm2, nm3])
      refine wpAnyH_one (i := 5) (by kernel_rfl) rfl (fun KK hK => ?_)
      go_simp
      refine hK.out _ _ ?s_210 (fun hHeld => ?_)
      case s_210 => exact HMK188.out _ HU202.out HR204.out
      clear hK KK
      (try simp only [Act.put, nm1, nm2, nm3])
      refine wpAnyH_done (by kernel_rfl) ?_ _
      refine NoPanic.normal ?_
      clear hHeld HMK188
      clear HEQ
      go_upto_region 37 with fail
      have HN2 : Hid (StB w200 67 bd y2 ∧ StB w200 30 bx y2 ∧ Keeps (fun _ => False) W w200 ∧ w200.heap[SB]? = some (.cells #[.int .i64 s.prins, .int .i64 s.links, .int .i64 s.stmts, .int .i64 s.grow, .int .i64 s.shrink, .int .i64 s.asks] 24) ∧ w200.heap[UB]? = some (.cells #[.int .i64 s.prins, .int .i64 s.links, .int .i64 s.stmts, .int .i64 s.grow, .int .i64 s.shrink, .int .i64 s.asks] 32)) := ⟨HS206.out, HE205.out, HK207.out, HS201.out, HU202.out⟩
      clear HS206 HE205 HK207 HS201 HU202
      go_wp2_with fail
      go_roundg (n - (i + 1))
      case measure => omega
      case rel => exact ⟨i + 1, y2, by omega, hi4, rfl, by go_num, HN2⟩
    ·skip
     go_upto_region 33 with fail
     clear Oc0 Of0 Oc1 Of1
     have hal := (MapKept.heap_alloc w19 (.cells #[.int .i64 0, .string ⟨#[]⟩, .string ⟨#[]⟩, .string ⟨#[]⟩, .string ⟨#[]⟩, .slice none 0 0] 49)).1
     have hkE : Keeps (fun _ => False) w19 (w19.alloc (.cells #[.int .i64 0, .string ⟨#[]⟩, .string ⟨#[]⟩, .string ⟨#[]⟩, .string ⟨#[]⟩, .slice none 0 0] 49)) := (Keeps.refl _ _).alloc _
     obtain ⟨RB, hRB⟩ : ∃ q, w19.heap.size = q := ⟨_, rfl⟩
     rw [hRB] at hal
     have HS213 := Lib.hid (((hkE).block _ (lt_of_heap HS21.out) (fun x => x)).trans HS21.out)
     have HU214 := Lib.hid (((hkE).block _ (lt_of_heap HU22.out) (fun x => x)).trans HU22.out)
     have HO215 := Lib.hid (((hkE).block _ (lt_of_heap HO26.out) (fun x => x)).trans HO26.out)
     have HE216 := Lib.hid (StB.keeps HE23.out (hkE) (fun x => x))
     have HN212 : Hid ((((W.heap.size ≤ SB ∧ SB < bd ∧ bd < bx) ∧ W.heap.size ≤ UB ∧ SB < UB ∧ bd < UB ∧ bx < UB) ∧ W.heap.size ≤ OB ∧ SB < OB ∧ UB < OB ∧ bd < OB ∧ bx < OB) ∧ W.heap.size ≤ RB ∧ SB < RB ∧ UB < RB ∧ OB < RB ∧ bd < RB ∧ bx < RB) := ⟨HN20.out, by
      have hz := HK25.out.size
      have l0 := lt_of_heap HS21.out
      have l1 := lt_of_heap HU22.out
      have l2 := lt_of_heap HO26.out
      have ls := lt_of_heap HS24.out.1
      have lx0 := lt_of_heap HE23.out.1
      refine ⟨?_, ?_, ?_, ?_, ?_, ?_⟩ <;> omega⟩
     have HS217 := Lib.hid (HS24.out.keeps hkE (fun x => x))
     have HK218 := Lib.hid (HK25.out.trans hkE)
     have HR219 := Lib.hid hal
     clear hkE hal HS21 HU22 HO26 HE23 HN20 HS24 HK25
     go_upto_region 34 with fail
     clear hRB
     generalize (w19.alloc (.cells #[.int .i64 0, .string ⟨#[]⟩, .string ⟨#[]⟩, .string ⟨#[]⟩, .string ⟨#[]⟩, .slice none 0 0] 49)) = w211 at *
     cases ok with
     | false =>
      obtain ⟨LA, hLA⟩ : ∃ q, w211.heap.size = q := ⟨_, rfl⟩
      have HN220 : Hid (((((W.heap.size ≤ SB ∧ SB < bd ∧ bd < bx) ∧ W.heap.size ≤ UB ∧ SB < UB ∧ bd < UB ∧ bx < UB) ∧ W.heap.size ≤ OB ∧ SB < OB ∧ UB < OB ∧ bd < OB ∧ bx < OB) ∧ W.heap.size ≤ RB ∧ SB < RB ∧ UB < RB ∧ OB < RB ∧ bd < RB ∧ bx < RB) ∧ SB < LA ∧ UB < LA ∧ OB < LA ∧ RB < LA ∧ bd < LA ∧ bx < LA) := ⟨HN212.out, by
       have l0 := lt_of_heap HS213.out
       have l1 := lt_of_heap HU214.out
       have l2 := lt_of_heap HO215.out
       have l3 := lt_of_heap HR219.out
       have ld := lt_of_heap HS217.out.1
       have lx := lt_of_heap HE216.out.1
       refine ⟨?_, ?_, ?_, ?_, ?_, ?_⟩ <;> omega⟩
      clear HN212
      clear hLA
      have HB : Hid (∀ W, StB W 67 bd y → Calls Tryz.prog 17 #[.pointer (some ⟨bd, 0, none⟩), .agg #[.int .i64 s.prins, .int .i64 s.links, .int .i64 s.stmts, .int .i64 s.grow, .int .i64 s.shrink, .int .i64 s.asks]] W (AskTo W 67 bd noQry y)) := fun W h => by
       have q := HC4D.out y W h
       unfold orD at q
       rw [if_neg (by rw [HOK.out]; decide)] at q
       exact q
      have HQW : Hid (([] : List Str).length ≤ 1000) := by show _ ≤ _; simp
      have HB : Hid (∀ W, StB W 67 bd y → Calls Tryz.prog 17 #[.pointer (some ⟨bd, 0, none⟩), .agg #[.int .i64 s.prins, .int .i64 s.links, .int .i64 s.stmts, .int .i64 s.grow, .int .i64 s.shrink, .int .i64 s.asks]] W (fun e W' => ∃ v', e = .returned (.agg #[.int .i64 0, .string ⟨#[]⟩, .string ⟨#[]⟩, .string ⟨#[]⟩, .string ⟨#[]⟩, v']) ∧ Hid (StB W' 67 bd y ∧ Keeps (fun q => q = bd) W W' ∧ RowAt W.heap.size W' v' []))) := HB
      have HRA : Hid (RowAt LA w211 (.slice none 0 0) []) := RowAt.nil _ _
      obtain ⟨Sc0, Sf0, Sc1, Sf1, Sc2, Sf2, Sc3, Sf3, Sc4, Sf4, Sc5, Sf5⟩ := cf6 HS213.out
      obtain ⟨Uc0, Uf0, Uc1, Uf1, Uc2, Uf2, Uc3, Uf3, Uc4, Uf4, Uc5, Uf5⟩ := cf6 HU214.out
      obtain ⟨Rc0, Rf0, Rc1, Rf1, Rc2, Rf2, Rc3, Rf3, Rc4, Rf4, Rc5, Rf5⟩ := cf6 HR219.out
      go_upto_region 36 with fail
      clear Sc0 Sf0 Sc1 Sf1 Sc2 Sf2 Sc3 Sf3 Sc4 Sf4 Sc5 Sf5 Uc0 Uf0 Uc1 Uf1 Uc2 Uf2 Uc3 Uf3 Uc4 Uf4 Uc5 Uf5 Rc0 Rf0 Rc1 Rf1 Rc2 Rf2 Rc3 Rf3 Rc4 Rf4 Rc5 Rf5
      have HMK221 : Hid (∀ w' : World, w'.heap[UB]? = some (.cells #[.int .i64 s.prins, .int .i64 s.links, .int .i64 s.stmts, .int .i64 s.grow, .int .i64 s.shrink, .int .i64 s.asks] 32) → w'.heap[RB]? = some (.cells #[.int .i64 0, .string ⟨#[]⟩, .string ⟨#[]⟩, .string ⟨#[]⟩, .string ⟨#[]⟩, .slice none 0 0] 49) → w'.cell? ⟨UB, 0, none⟩ = some (.int .i64 s.prins) ∧ w'.cell? ⟨UB, 1, none⟩ = some (.int .i64 s.links) ∧ w'.cell? ⟨UB, 2, none⟩ = some (.int .i64 s.stmts) ∧ w'.cell? ⟨UB, 3, none⟩ = some (.int .i64 s.grow) ∧ w'.cell? ⟨UB, 4, none⟩ = some (.int .i64 s.shrink) ∧ w'.cell? ⟨UB, 5, none⟩ = some (.int .i64 s.asks) ∧ w'.cell? ⟨RB, 0, none⟩ = some (.int .i64 0) ∧ w'.cell? ⟨RB, 1, none⟩ = some (.string ⟨#[]⟩) ∧ w'.cell? ⟨RB, 2, none⟩ = some (.string ⟨#[]⟩) ∧ w'.cell? ⟨RB, 3, none⟩ = some (.string ⟨#[]⟩) ∧ w'.cell? ⟨RB, 4, none⟩ = some (.string ⟨#[]⟩) ∧ w'.cell? ⟨RB, 5, none⟩ = some (.slice none 0 0) ∧ Hid (w'.heap[UB]? = some (.cells #[.int .i64 s.prins, .int .i64 s.links, .int .i64 s.stmts, .int .i64 s.grow, .int .i64 s.shrink, .int .i64 s.asks] 32) ∧ w'.heap[RB]? = some (.cells #[.int .i64 0, .string ⟨#[]⟩, .string ⟨#[]⟩, .string ⟨#[]⟩, .string ⟨#[]⟩, .slice none 0 0] 49))) := fun w' h0 h1 => ⟨(by rw [cell_of_heap h0]; rfl), (by rw [cell_of_heap h0]; rfl), (by rw [cell_of_heap h0]; rfl), (by rw [cell_of_heap h0]; rfl), (by rw [cell_of_heap h0]; rfl), (by rw [cell_of_heap h0]; rfl), (by rw [cell_of_heap h1]; rfl), (by rw [cell_of_heap h1]; rfl), (by rw [cell_of_heap h1]; rfl), (by rw [cell_of_heap h1]; rfl), (by rw [cell_of_heap h1]; rfl), (by rw [cell_of_heap h1]; rfl), Lib.hid ⟨h0, h1⟩⟩
      have hkd : Keeps (fun _ => False) w211 w211.drew := (Keeps.refl _ _).drew
      have HS222 := Lib.hid (((hkd).block _ (lt_of_heap HS213.out) (fun x => x)).trans HS213.out)
      have HU223 := Lib.hid (((hkd).block _ (lt_of_heap HU214.out) (fun x => x)).trans HU214.out)
      have HO224 := Lib.hid (((hkd).block _ (lt_of_heap HO215.out) (fun x => x)).trans HO215.out)
      have HR225 := Lib.hid (((hkd).block _ (lt_of_heap HR219.out) (fun x => x)).trans HR219.out)
      have HE226 := Lib.hid (StB.keeps HE216.out (hkd) (fun x => x))
      have HE227 := Lib.hid (RowAt.keeps HRA.out (hkd) (fun _ _ _ x => x))
      have HS228 := Lib.hid (HS217.out.keeps hkd (fun x => x))
      have HK229 := Lib.hid (HK218.out.drew)
      have hS0 := HMK221.out w211.drew HU223.out HR225.out
      clear hkd HS213 HU214 HO215 HR219 HE216 HRA HS217 HK218
      refine wp_region_noPanic ?_
      refine wp_region_held_drew (S := (fun w' => w'.cell? ⟨UB, 0, none⟩ = some (.int .i64 s.prins) ∧ w'.cell? ⟨UB, 1, none⟩ = some (.int .i64 s.links) ∧ w'.cell? ⟨UB, 2, none⟩ = some (.int .i64 s.stmts) ∧ w'.cell? ⟨UB, 3, none⟩ = some (.int .i64 s.grow) ∧ w'.cell? ⟨UB, 4, none⟩ = some (.int .i64 s.shrink) ∧ w'.cell? ⟨UB, 5, none⟩ = some (.int .i64 s.asks) ∧ w'.cell? ⟨RB, 0, none⟩ = some (.int .i64 0) ∧ w'.cell? ⟨RB, 1, none⟩ = some (.string ⟨#[]⟩) ∧ w'.cell? ⟨RB, 2, none⟩ = some (.string ⟨#[]⟩) ∧ w'.cell? ⟨RB, 3, none⟩ = some (.string ⟨#[]⟩) ∧ w'.cell? ⟨RB, 4, none⟩ = some (.string ⟨#[]⟩) ∧ w'.cell? ⟨RB, 5, none⟩ = some (.slice none 0 0) ∧ Hid (w'.heap[UB]? = some (.cells #[.int .i64 s.prins, .int .i64 s.links, .int .i64 s.stmts, .int .i64 s.grow, .int .i64 s.shrink, .int .i64 s.asks] 32) ∧ w'.heap[RB]? = some (.cells #[.int .i64 0, .string ⟨#[]⟩, .string ⟨#[]⟩, .string ⟨#[]⟩, .string ⟨#[]⟩, .slice none 0 0] 49)))) (by kernel_rfl) hS0 (fun hHeld => ?_)
      clear hS0
      generalize w211.drew = w230 at *
      refine wpAnyH_take_at (i := 0) (v := ?v0_231) rfl (by kernel_rfl) (by kernel_rfl) (by kernel_rfl) (fun _ _ _ h => h) (Or.inl ⟨by rfl, ?y0_231⟩) hHeld ?r0_231
      case y0_231 => (intro w hSw; (try dsimp only at hSw); go_simp; first | done | with_reducible rfl)
      (try simp only [Act.put, nm1, nm2, nm3])
      refine wpAnyH_take_at (i := 1) (v := ?v1_232) rfl (by kernel_rfl) (by kernel_rfl) (by kernel_rfl) (fun _ _ _ h => h) (Or.inl ⟨by rfl, ?y1_232⟩) hHeld ?r1_232
      case y1_232 => (intro w hSw; (try dsimp only at hSw); go_simp; first | done | with_reducible rfl)
      (try simp only [Act.put, nm1, nm2, nm3])
      refine wpAnyH_take_at (i := 3) (v := ?v3_233) rfl (by kernel_rfl) (by kernel_rfl) (by kernel_rfl) (fun _ _ _ h => h) (Or.inl ⟨by rfl, ?y3_233⟩) hHeld ?r3_233
      case y3_233 => (intro w hSw; (try dsimp only at hSw); go_simp; first | done | with_reducible rfl)
      (try simp only [Act.put, nm1, nm2, nm3])
      refine wpAnyH_one (i := 2) (by kernel_rfl) rfl (fun KK hK => ?_)
      go_simp
      refine (HB.out _ HS228.out).mono ?_
      rintro e w234 ⟨dv, rfl, hk⟩
      obtain ⟨eo, ec, hdv, hzz⟩ := id hk.out.2.2.1
      clear hzz
      subst hdv
      have HRB : Hid (ReadsS w234 (.slice eo ([] : List Str).length ec) ([] : List Str)) := hk.out.2.2.1
      have HS235 := Lib.hid (((hk.out.2.1).block _ (lt_of_heap HS222.out) (by have := HN220.out; show ¬ _ = _; omega)).trans HS222.out)
      have HU236 := Lib.hid (((hk.out.2.1).block _ (lt_of_heap HU223.out) (by have := HN220.out; show ¬ _ = _; omega)).trans HU223.out)
      have HO237 := Lib.hid (((hk.out.2.1).block _ (lt_of_heap HO224.out) (by have := HN220.out; show ¬ _ = _; omega)).trans HO224.out)
      have HR238 := Lib.hid (((hk.out.2.1).block _ (lt_of_heap HR225.out) (by have := HN220.out; show ¬ _ = _; omega)).trans HR225.out)
      have HE239 := Lib.hid (StB.keeps HE226.out (hk.out.2.1) (by have := HN220.out; show ¬ _ = _; omega))
      have HE240 := Lib.hid (RowAt.keeps HE227.out (hk.out.2.1) (fun q hq _ e => by have e : q = _ := e; have := HN220.out; omega))
      have HSP := Lib.hid (hk.out.1)
      have HK241 := Lib.hid (HK229.out.trans_new hk.out.2.1 (fun q hq e => by have := HN220.out; omega))
      clear hk HB HS222 HU223 HO224 HR225 HE226 HE227 HS228 HK229
      go_simp
      refine hK.out _ _ ?s_242 (fun hHeld => ?_)
      case s_242 => exact HMK221.out _ HU236.out HR238.out
      clear hK KK
      (try simp only [Act.put, nm1, nm2, nm3])
      have HSM : Hid (Calls Tryz.prog 16 #[.agg #[.int .i64 0, .string ⟨#[]⟩, .string ⟨#[]⟩, .string ⟨#[]⟩, .string ⟨#[]⟩, .slice eo ([] : List Str).length ec], .agg #[.int .i64 0, .string ⟨#[]⟩, .string ⟨#[]⟩, .string ⟨#[]⟩, .string ⟨#[]⟩, .slice none 0 0]] w234 fun e W' => e = .returned (.bool true) ∧ Hid (Keeps (fun _ => False) w234 W')) := qsame_spec (q := noQry) HRB.out HE240.out.1 (Nat.le_trans HQW.out (by omega))
      refine wpAnyH_one (i := 4) (by kernel_rfl) rfl (fun KK hK => ?_)
      go_simp
      refine HSM.out.mono ?_
      rintro e w243 ⟨rfl, hk⟩
      have HS244 := Lib.hid (((hk.out).block _ (lt_of_heap HS235.out) (fun x => x)).trans HS235.out)
      have HU245 := Lib.hid (((hk.out).block _ (lt_of_heap HU236.out) (fun x => x)).trans HU236.out)
      have HO246 := Lib.hid (((hk.out).block _ (lt_of_heap HO237.out) (fun x => x)).trans HO237.out)
      have HR247 := Lib.hid (((hk.out).block _ (lt_of_heap HR238.out) (fun x => x)).trans HR238.out)
      have HE248 := Lib.hid (StB.keeps HE239.out (hk.out) (fun x => x))
      have HS249 := Lib.hid (HSP.out.keeps hk.out (fun x => x))
      have HK250 := Lib.hid (HK241.out.trans hk.out)
      clear hk HSM HRB HE240 HQW HS235 HU236 HO237 HR238 HE239 HSP HK241
      go_simp
      refine hK.out _ _ ?s_251 (fun hHeld => ?_)
      case s_251 => exact HMK221.out _ HU245.out HR247.out
      clear hK KK
      (try simp only [Act.put, nm1, nm2, nm3])
      refine wpAnyH_one (i := 5) (by kernel_rfl) rfl (fun KK hK => ?_)
      go_simp
      refine hK.out _ _ ?s_252 (fun hHeld => ?_)
      case s_252 => exact HMK221.out _ HU245.out HR247.out
      clear hK KK
      (try simp only [Act.put, nm1, nm2, nm3])
      refine wpAnyH_done (by kernel_rfl) ?_ _
      refine NoPanic.normal ?_
      clear hHeld HMK221
      go_upto_region 37 with fail
      have HN2 : Hid (StB w243 67 bd y ∧ StB w243 30 bx y ∧ Keeps (fun _ => False) W w243 ∧ w243.heap[SB]? = some (.cells #[.int .i64 s.prins, .int .i64 s.links, .int .i64 s.stmts, .int .i64 s.grow, .int .i64 s.shrink, .int .i64 s.asks] 24) ∧ w243.heap[UB]? = some (.cells #[.int .i64 s.prins, .int .i64 s.links, .int .i64 s.stmts, .int .i64 s.grow, .int .i64 s.shrink, .int .i64 s.asks] 32)) := ⟨HS249.out, HE248.out, HK250.out, HS244.out, HU245.out⟩
      clear HS249 HE248 HK250 HS244 HU245
      go_wp2_with fail
      go_roundg (n - (i + 1))
      case measure => omega
      case rel => exact ⟨i + 1, y, by omega, hi4, rfl, by go_num, HN2⟩
     | true =>
      obtain ⟨LA, hLA⟩ : ∃ q, w211.heap.size = q := ⟨_, rfl⟩
      have HN253 : Hid (((((W.heap.size ≤ SB ∧ SB < bd ∧ bd < bx) ∧ W.heap.size ≤ UB ∧ SB < UB ∧ bd < UB ∧ bx < UB) ∧ W.heap.size ≤ OB ∧ SB < OB ∧ UB < OB ∧ bd < OB ∧ bx < OB) ∧ W.heap.size ≤ RB ∧ SB < RB ∧ UB < RB ∧ OB < RB ∧ bd < RB ∧ bx < RB) ∧ SB < LA ∧ UB < LA ∧ OB < LA ∧ RB < LA ∧ bd < LA ∧ bx < LA) := ⟨HN212.out, by
       have l0 := lt_of_heap HS213.out
       have l1 := lt_of_heap HU214.out
       have l2 := lt_of_heap HO215.out
       have l3 := lt_of_heap HR219.out
       have ld := lt_of_heap HS217.out.1
       have lx := lt_of_heap HE216.out.1
       refine ⟨?_, ?_, ?_, ?_, ?_, ?_⟩ <;> omega⟩
      clear HN212
      have HA : Hid (∀ W, StB W 30 bx y → Calls Tryz.prog 15 #[.pointer (some ⟨bx, 0, none⟩), .agg #[.int .i64 s.prins, .int .i64 s.links, .int .i64 s.stmts, .int .i64 s.grow, .int .i64 s.shrink, .int .i64 s.asks]] W (AskTo W 30 bx (askD y s).1 (askD y s).2)) := fun W h => HC4R.out HOK.out y W h
      have HB : Hid (∀ W, StB W 67 bd y → Calls Tryz.prog 17 #[.pointer (some ⟨bd, 0, none⟩), .agg #[.int .i64 s.prins, .int .i64 s.links, .int .i64 s.stmts, .int .i64 s.grow, .int .i64 s.shrink, .int .i64 s.asks]] W (AskTo W 67 bd (askD y s).1 (askD y s).2)) := fun W h => by
       have q := HC4D.out y W h
       unfold orD at q
       rw [if_pos HOK.out] at q
       exact q
      have HQW : Hid ((askD y s).1.2.2.2.length ≤ 1000) := ask_who y s
      obtain ⟨⟨nn, y2⟩, hq⟩ : ∃ q, askD y s = q := ⟨_, rfl⟩
      rw [hq] at HA HB HQW
      obtain ⟨qk, ⟨qa1, qa2⟩, ⟨qb1, qb2⟩, qw⟩ := nn
      unfold AskTo qryV at HA HB
      simp only at HA HB HQW
      clear hq
      obtain ⟨Sc0, Sf0, Sc1, Sf1, Sc2, Sf2, Sc3, Sf3, Sc4, Sf4, Sc5, Sf5⟩ := cf6 HS213.out
      obtain ⟨Uc0, Uf0, Uc1, Uf1, Uc2, Uf2, Uc3, Uf3, Uc4, Uf4, Uc5, Uf5⟩ := cf6 HU214.out
      obtain ⟨Rc0, Rf0, Rc1, Rf1, Rc2, Rf2, Rc3, Rf3, Rc4, Rf4, Rc5, Rf5⟩ := cf6 HR219.out
      go_wp2_with fail
      refine (HA.out _ HE216.out).mono ?_
      rintro e w254 ⟨cv, rfl, hk⟩
      obtain ⟨co, cc, hcv, hzz⟩ := id hk.out.2.2.1
      clear hzz
      subst hcv
      have HRA : Hid (RowAt LA w254 (.slice co qw.length cc) qw) := by rw [← hLA]; exact hk.out.2.2
      have HS255 := Lib.hid (((hk.out.2.1).block _ (lt_of_heap HS213.out) (by have := HN253.out; show ¬ _ = _; omega)).trans HS213.out)
      have HU256 := Lib.hid (((hk.out.2.1).block _ (lt_of_heap HU214.out) (by have := HN253.out; show ¬ _ = _; omega)).trans HU214.out)
      have HO257 := Lib.hid (((hk.out.2.1).block _ (lt_of_heap HO215.out) (by have := HN253.out; show ¬ _ = _; omega)).trans HO215.out)
      have HR258 := Lib.hid (((hk.out.2.1).block _ (lt_of_heap HR219.out) (by have := HN253.out; show ¬ _ = _; omega)).trans HR219.out)
      have HE259 := Lib.hid (StB.keeps HS217.out (hk.out.2.1) (by have := HN253.out; show ¬ _ = _; omega))
      have HSQ := Lib.hid (hk.out.1)
      have HK260 := Lib.hid (HK218.out.trans_new hk.out.2.1 (fun q hq e => by have := HN253.out; omega))
      clear Sc0 Sf0 Sc1 Sf1 Sc2 Sf2 Sc3 Sf3 Sc4 Sf4 Sc5 Sf5 Uc0 Uf0 Uc1 Uf1 Uc2 Uf2 Uc3 Uf3 Uc4 Uf4 Uc5 Uf5 Rc0 Rf0 Rc1 Rf1 Rc2 Rf2 Rc3 Rf3 Rc4 Rf4 Rc5 Rf5
      clear hk HA hLA HS213 HU214 HO215 HR219 HS217 HE216 HK218
      obtain ⟨Rc0, Rf0, Rc1, Rf1, Rc2, Rf2, Rc3, Rf3, Rc4, Rf4, Rc5, Rf5⟩ := cf6 HR258.out
      obtain ⟨hs0, hkE⟩ := sx6 HR258.out (.int .i64 qk) (.string ⟨qa1.toArray⟩) (.string ⟨qa2.toArray⟩) (.string ⟨qb1.toArray⟩) (.string ⟨qb2.toArray⟩) (.slice co qw.length cc)
      have HR262 := Lib.hid hs0
      have HS263 := Lib.hid (((hkE).block _ (lt_of_heap HS255.out) (by have := HN253.out; show ¬ _ = _; omega)).trans HS255.out)
      have HU264 := Lib.hid (((hkE).block _ (lt_of_heap HU256.out) (by have := HN253.out; show ¬ _ = _; omega)).trans HU256.out)
      have HO265 := Lib.hid (((hkE).block _ (lt_of_heap HO257.out) (by have := HN253.out; show ¬ _ = _; omega)).trans HO257.out)
      have HE266 := Lib.hid (StB.keeps HSQ.out (hkE) (by have := HN253.out; show ¬ _ = _; omega))
      have HE267 := Lib.hid (RowAt.keeps HRA.out (hkE) (fun q hq _ e => by have e : q = _ := e; have := HN253.out; omega))
      have HS268 := Lib.hid (HE259.out.keeps hkE (by have := HN253.out; show ¬ _ = _; omega))
      have HK269 := Lib.hid (HK260.out.trans_new hkE (fun q hq e => by have := HN253.out; omega))
      clear hkE hs0 HR258 HS255 HU256 HO257 HSQ HRA HE259 HK260
      go_upto_region 36 with fail
      clear Rc0 Rf0 Rc1 Rf1 Rc2 Rf2 Rc3 Rf3 Rc4 Rf4 Rc5 Rf5
      generalize ((((((w254.setCell ⟨RB, 0, none⟩ (.int .i64 qk)).setCell ⟨RB, 1, none⟩ (.string ⟨qa1.toArray⟩)).setCell ⟨RB, 2, none⟩ (.string ⟨qa2.toArray⟩)).setCell ⟨RB, 3, none⟩ (.string ⟨qb1.toArray⟩)).setCell ⟨RB, 4, none⟩ (.string ⟨qb2.toArray⟩)).setCell ⟨RB, 5, none⟩ (.slice co qw.length cc)) = w261 at *
      have HMK270 : Hid (∀ w' : World, w'.heap[UB]? = some (.cells #[.int .i64 s.prins, .int .i64 s.links, .int .i64 s.stmts, .int .i64 s.grow, .int .i64 s.shrink, .int .i64 s.asks] 32) → w'.heap[RB]? = some (.cells #[.int .i64 qk, .string ⟨qa1.toArray⟩, .string ⟨qa2.toArray⟩, .string ⟨qb1.toArray⟩, .string ⟨qb2.toArray⟩, .slice co qw.length cc] 49) → w'.cell? ⟨UB, 0, none⟩ = some (.int .i64 s.prins) ∧ w'.cell? ⟨UB, 1, none⟩ = some (.int .i64 s.links) ∧ w'.cell? ⟨UB, 2, none⟩ = some (.int .i64 s.stmts) ∧ w'.cell? ⟨UB, 3, none⟩ = some (.int .i64 s.grow) ∧ w'.cell? ⟨UB, 4, none⟩ = some (.int .i64 s.shrink) ∧ w'.cell? ⟨UB, 5, none⟩ = some (.int .i64 s.asks) ∧ w'.cell? ⟨RB, 0, none⟩ = some (.int .i64 qk) ∧ w'.cell? ⟨RB, 1, none⟩ = some (.string ⟨qa1.toArray⟩) ∧ w'.cell? ⟨RB, 2, none⟩ = some (.string ⟨qa2.toArray⟩) ∧ w'.cell? ⟨RB, 3, none⟩ = some (.string ⟨qb1.toArray⟩) ∧ w'.cell? ⟨RB, 4, none⟩ = some (.string ⟨qb2.toArray⟩) ∧ w'.cell? ⟨RB, 5, none⟩ = some (.slice co qw.length cc) ∧ Hid (w'.heap[UB]? = some (.cells #[.int .i64 s.prins, .int .i64 s.links, .int .i64 s.stmts, .int .i64 s.grow, .int .i64 s.shrink, .int .i64 s.asks] 32) ∧ w'.heap[RB]? = some (.cells #[.int .i64 qk, .string ⟨qa1.toArray⟩, .string ⟨qa2.toArray⟩, .string ⟨qb1.toArray⟩, .string ⟨qb2.toArray⟩, .slice co qw.length cc] 49))) := fun w' h0 h1 => ⟨(by rw [cell_of_heap h0]; rfl), (by rw [cell_of_heap h0]; rfl), (by rw [cell_of_heap h0]; rfl), (by rw [cell_of_heap h0]; rfl), (by rw [cell_of_heap h0]; rfl), (by rw [cell_of_heap h0]; rfl), (by rw [cell_of_heap h1]; rfl), (by rw [cell_of_heap h1]; rfl), (by rw [cell_of_heap h1]; rfl), (by rw [cell_of_heap h1]; rfl), (by rw [cell_of_heap h1]; rfl), (by rw [cell_of_heap h1]; rfl), Lib.hid ⟨h0, h1⟩⟩
      have hkd : Keeps (fun _ => False) w261 w261.drew := (Keeps.refl _ _).drew
      have HS271 := Lib.hid (((hkd).block _ (lt_of_heap HS263.out) (fun x => x)).trans HS263.out)
      have HU272 := Lib.hid (((hkd).block _ (lt_of_heap HU264.out) (fun x => x)).trans HU264.out)
      have HO273 := Lib.hid (((hkd).block _ (lt_of_heap HO265.out) (fun x => x)).trans HO265.out)
      have HR274 := Lib.hid (((hkd).block _ (lt_of_heap HR262.out) (fun x => x)).trans HR262.out)
      have HE275 := Lib.hid (StB.keeps HE266.out (hkd) (fun x => x))
      have HE276 := Lib.hid (RowAt.keeps HE267.out (hkd) (fun _ _ _ x => x))
      have HS277 := Lib.hid (HS268.out.keeps hkd (fun x => x))
      have HK278 := Lib.hid (HK269.out.drew)
      have hS0 := HMK270.out w261.drew HU272.out HR274.out
      clear hkd HS263 HU264 HO265 HR262 HE266 HE267 HS268 HK269
      refine wp_region_noPanic ?_
      refine wp_region_held_drew (S := (fun w' => w'.cell? ⟨UB, 0, none⟩ = some (.int .i64 s.prins) ∧ w'.cell? ⟨UB, 1, none⟩ = some (.int .i64 s.links) ∧ w'.cell? ⟨UB, 2, none⟩ = some (.int .i64 s.stmts) ∧ w'.cell? ⟨UB, 3, none⟩ = some (.int .i64 s.grow) ∧ w'.cell? ⟨UB, 4, none⟩ = some (.int .i64 s.shrink) ∧ w'.cell? ⟨UB, 5, none⟩ = some (.int .i64 s.asks) ∧ w'.cell? ⟨RB, 0, none⟩ = some (.int .i64 qk) ∧ w'.cell? ⟨RB, 1, none⟩ = some (.string ⟨qa1.toArray⟩) ∧ w'.cell? ⟨RB, 2, none⟩ = some (.string ⟨qa2.toArray⟩) ∧ w'.cell? ⟨RB, 3, none⟩ = some (.string ⟨qb1.toArray⟩) ∧ w'.cell? ⟨RB, 4, none⟩ = some (.string ⟨qb2.toArray⟩) ∧ w'.cell? ⟨RB, 5, none⟩ = some (.slice co qw.length cc) ∧ Hid (w'.heap[UB]? = some (.cells #[.int .i64 s.prins, .int .i64 s.links, .int .i64 s.stmts, .int .i64 s.grow, .int .i64 s.shrink, .int .i64 s.asks] 32) ∧ w'.heap[RB]? = some (.cells #[.int .i64 qk, .string ⟨qa1.toArray⟩, .string ⟨qa2.toArray⟩, .string ⟨qb1.toArray⟩, .string ⟨qb2.toArray⟩, .slice co qw.length cc] 49)))) (by kernel_rfl) hS0 (fun hHeld => ?_)
      clear hS0
      generalize w261.drew = w279 at *
      refine wpAnyH_take_at (i := 0) (v := ?v0_280) rfl (by kernel_rfl) (by kernel_rfl) (by kernel_rfl) (fun _ _ _ h => h) (Or.inl ⟨by rfl, ?y0_280⟩) hHeld ?r0_280
      case y0_280 => (intro w hSw; (try dsimp only at hSw); go_simp; first | done | with_reducible rfl)
      (try simp only [Act.put, nm1, nm2, nm3])
      refine wpAnyH_take_at (i := 1) (v := ?v1_281) rfl (by kernel_rfl) (by kernel_rfl) (by kernel_rfl) (fun _ _ _ h => h) (Or.inl ⟨by rfl, ?y1_281⟩) hHeld ?r1_281
      case y1_281 => (intro w hSw; (try dsimp only at hSw); go_simp; first | done | with_reducible rfl)
      (try simp only [Act.put, nm1, nm2, nm3])
      refine wpAnyH_take_at (i := 3) (v := ?v3_282) rfl (by kernel_rfl) (by kernel_rfl) (by kernel_rfl) (fun _ _ _ h => h) (Or.inl ⟨by rfl, ?y3_282⟩) hHeld ?r3_282
      case y3_282 => (intro w hSw; (try dsimp only at hSw); go_simp; first | done | with_reducible rfl)
      (try simp only [Act.put, nm1, nm2, nm3])
      refine wpAnyH_one (i := 2) (by kernel_rfl) rfl (fun KK hK => ?_)
      go_simp
      refine (HB.out _ HS277.out).mono ?_
      rintro e w283 ⟨dv, rfl, hk⟩
      obtain ⟨eo, ec, hdv, hzz⟩ := id hk.out.2.2.1
      clear hzz
      subst hdv
      have HRB : Hid (ReadsS w283 (.slice eo qw.length ec) qw) := hk.out.2.2.1
      have HS284 := Lib.hid (((hk.out.2.1).block _ (lt_of_heap HS271.out) (by have := HN253.out; show ¬ _ = _; omega)).trans HS271.out)
      have HU285 := Lib.hid (((hk.out.2.1).block _ (lt_of_heap HU272.out) (by have := HN253.out; show ¬ _ = _; omega)).trans HU272.out)
      have HO286 := Lib.hid (((hk.out.2.1).block _ (lt_of_heap HO273.out) (by have := HN253.out; show ¬ _ = _; omega)).trans HO273.out)
      have HR287 := Lib.hid (((hk.out.2.1).block _ (lt_of_heap HR274.out) (by have := HN253.out; show ¬ _ = _; omega)).trans HR274.out)
      have HE288 := Lib.hid (StB.keeps HE275.out (hk.out.2.1) (by have := HN253.out; show ¬ _ = _; omega))
      have HE289 := Lib.hid (RowAt.keeps HE276.out (hk.out.2.1) (fun q hq _ e => by have e : q = _ := e; have := HN253.out; omega))
      have HSP := Lib.hid (hk.out.1)
      have HK290 := Lib.hid (HK278.out.trans_new hk.out.2.1 (fun q hq e => by have := HN253.out; omega))
      clear hk HB HS271 HU272 HO273 HR274 HE275 HE276 HS277 HK278
      go_simp
      refine hK.out _ _ ?s_291 (fun hHeld => ?_)
      case s_291 => exact HMK270.out _ HU285.out HR287.out
      clear hK KK
      (try simp only [Act.put, nm1, nm2, nm3])
      have HSM : Hid (Calls Tryz.prog 16 #[.agg #[.int .i64 qk, .string ⟨qa1.toArray⟩, .string ⟨qa2.toArray⟩, .string ⟨qb1.toArray⟩, .string ⟨qb2.toArray⟩, .slice eo qw.length ec], .agg #[.int .i64 qk, .string ⟨qa1.toArray⟩, .string ⟨qa2.toArray⟩, .string ⟨qb1.toArray⟩, .string ⟨qb2.toArray⟩, .slice co qw.length cc]] w283 fun e W' => e = .returned (.bool true) ∧ Hid (Keeps (fun _ => False) w283 W')) := qsame_spec (q := (qk, (qa1, qa2), (qb1, qb2), qw)) HRB.out HE289.out.1 (Nat.le_trans HQW.out (by omega))
      refine wpAnyH_one (i := 4) (by kernel_rfl) rfl (fun KK hK => ?_)
      go_simp
      refine HSM.out.mono ?_
      rintro e w292 ⟨rfl, hk⟩
      have HS293 := Lib.hid (((hk.out).block _ (lt_of_heap HS284.out) (fun x => x)).trans HS284.out)
      have HU294 := Lib.hid (((hk.out).block _ (lt_of_heap HU285.out) (fun x => x)).trans HU285.out)
      have HO295 := Lib.hid (((hk.out).block _ (lt_of_heap HO286.out) (fun x => x)).trans HO286.out)
      have HR296 := Lib.hid (((hk.out).block _ (lt_of_heap HR287.out) (fun x => x)).trans HR287.out)
      have HE297 := Lib.hid (StB.keeps HE288.out (hk.out) (fun x => x))
      have HS298 := Lib.hid (HSP.out.keeps hk.out (fun x => x))
      have HK299 := Lib.hid (HK290.out.trans hk.out)
      clear hk HSM HRB HE289 HQW HS284 HU285 HO286 HR287 HE288 HSP HK290
      go_simp
      refine hK.out _ _ ?s_300 (fun hHeld => ?_)
      case s_300 => exact HMK270.out _ HU294.out HR296.out
      clear hK KK
      (try simp only [Act.put, nm1, nm2, nm3])
      refine wpAnyH_one (i := 5) (by kernel_rfl) rfl (fun KK hK => ?_)
      go_simp
      refine hK.out _ _ ?s_301 (fun hHeld => ?_)
      case s_301 => exact HMK270.out _ HU294.out HR296.out
      clear hK KK
      (try simp only [Act.put, nm1, nm2, nm3])
      refine wpAnyH_done (by kernel_rfl) ?_ _
      refine NoPanic.normal ?_
      clear hHeld HMK270
      go_upto_region 37 with fail
      have HN2 : Hid (StB w292 67 bd y2 ∧ StB w292 30 bx y2 ∧ Keeps (fun _ => False) W w292 ∧ w292.heap[SB]? = some (.cells #[.int .i64 s.prins, .int .i64 s.links, .int .i64 s.stmts, .int .i64 s.grow, .int .i64 s.shrink, .int .i64 s.asks] 24) ∧ w292.heap[UB]? = some (.cells #[.int .i64 s.prins, .int .i64 s.links, .int .i64 s.stmts, .int .i64 s.grow, .int .i64 s.shrink, .int .i64 s.asks] 32)) := ⟨HS298.out, HE297.out, HK299.out, HS293.out, HU294.out⟩
      clear HS298 HE297 HK299 HS293 HU294
      go_wp2_with fail
      go_roundg (n - (i + 1))
      case measure => omega
      case rel => exact ⟨i + 1, y2, by omega, hi4, rfl, by go_num, HN2⟩
    ·skip
     go_upto_region 14 with fail
     clear Oc0 Of0 Oc1 Of1
     have hal := (MapKept.heap_alloc w19 (.cells #[.slice none 0 0, .slice none 0 0, .slice none 0 0, .slice none 0 0] 57)).1
     have hkE : Keeps (fun _ => False) w19 (w19.alloc (.cells #[.slice none 0 0, .slice none 0 0, .slice none 0 0, .slice none 0 0] 57)) := (Keeps.refl _ _).alloc _
     obtain ⟨RB, hRB⟩ : ∃ q, w19.heap.size = q := ⟨_, rfl⟩
     rw [hRB] at hal
     have HS304 := Lib.hid (((hkE).block _ (lt_of_heap HS21.out) (fun x => x)).trans HS21.out)
     have HU305 := Lib.hid (((hkE).block _ (lt_of_heap HU22.out) (fun x => x)).trans HU22.out)
     have HO306 := Lib.hid (((hkE).block _ (lt_of_heap HO26.out) (fun x => x)).trans HO26.out)
     have HE307 := Lib.hid (StB.keeps HE23.out (hkE) (fun x => x))
     have HN303 : Hid ((((W.heap.size ≤ SB ∧ SB < bd ∧ bd < bx) ∧ W.heap.size ≤ UB ∧ SB < UB ∧ bd < UB ∧ bx < UB) ∧ W.heap.size ≤ OB ∧ SB < OB ∧ UB < OB ∧ bd < OB ∧ bx < OB) ∧ W.heap.size ≤ RB ∧ SB < RB ∧ UB < RB ∧ OB < RB ∧ bd < RB ∧ bx < RB) := ⟨HN20.out, by
      have hz := HK25.out.size
      have l0 := lt_of_heap HS21.out
      have l1 := lt_of_heap HU22.out
      have l2 := lt_of_heap HO26.out
      have ls := lt_of_heap HS24.out.1
      have lx0 := lt_of_heap HE23.out.1
      refine ⟨?_, ?_, ?_, ?_, ?_, ?_⟩ <;> omega⟩
     have HS308 := Lib.hid (HS24.out.keeps hkE (fun x => x))
     have HK309 := Lib.hid (HK25.out.trans hkE)
     have HR310 := Lib.hid hal
     clear hkE hal HS21 HU22 HO26 HE23 HN20 HS24 HK25
     go_upto_region 15 with fail
     clear hRB
     generalize (w19.alloc (.cells #[.slice none 0 0, .slice none 0 0, .slice none 0 0, .slice none 0 0] 57)) = w302 at *
     cases ok with
     | false =>
      obtain ⟨LA, hLA⟩ : ∃ q, w302.heap.size = q := ⟨_, rfl⟩
      have HN311 : Hid (((((W.heap.size ≤ SB ∧ SB < bd ∧ bd < bx) ∧ W.heap.size ≤ UB ∧ SB < UB ∧ bd < UB ∧ bx < UB) ∧ W.heap.size ≤ OB ∧ SB < OB ∧ UB < OB ∧ bd < OB ∧ bx < OB) ∧ W.heap.size ≤ RB ∧ SB < RB ∧ UB < RB ∧ OB < RB ∧ bd < RB ∧ bx < RB) ∧ SB < LA ∧ UB < LA ∧ OB < LA ∧ RB < LA ∧ bd < LA ∧ bx < LA) := ⟨HN303.out, by
       have l0 := lt_of_heap HS304.out
       have l1 := lt_of_heap HU305.out
       have l2 := lt_of_heap HO306.out
       have l3 := lt_of_heap HR310.out
       have ld := lt_of_heap HS308.out.1
       have lx := lt_of_heap HE307.out.1
       refine ⟨?_, ?_, ?_, ?_, ?_, ?_⟩ <;> omega⟩
      clear HN303
      clear hLA
      have HB : Hid (∀ W, StB W 67 bd y → Calls Tryz.prog 20 #[.pointer (some ⟨bd, 0, none⟩), .agg #[.int .i64 s.prins, .int .i64 s.links, .int .i64 s.stmts, .int .i64 s.grow, .int .i64 s.shrink, .int .i64 s.asks]] W (PolDr W 67 bd noPol y)) := fun W h => by
       have q := HC5D.out y W h
       unfold orD at q
       rw [if_neg (by rw [HOK.out]; decide)] at q
       exact q
      have HPA : Hid (PolX w302 (.slice none 0 0) (.slice none 0 0) (.slice none 0 0) (.slice none 0 0) noPol (fun k => LA ≤ k)) := polX_nil _ _
      have HFW : Hid (noPol.1.length ≤ 1000000 ∧ noPol.2.1.length ≤ 1000000 ∧ noPol.2.2.1.length ≤ 1000000 ∧ noPol.2.2.2.length ≤ 1000000 ∧ ∀ q ∈ noPol.2.2.2, q.2.2.2.length ≤ 1000000) := ⟨by decide, by decide, by decide, by decide, fun q hq => by cases hq⟩
      obtain ⟨np, hnp⟩ : ∃ q, noPol = q := ⟨_, rfl⟩
      rw [hnp] at HB HPA HFW
      clear hnp
      obtain ⟨Sc0, Sf0, Sc1, Sf1, Sc2, Sf2, Sc3, Sf3, Sc4, Sf4, Sc5, Sf5⟩ := cf6 HS304.out
      obtain ⟨Uc0, Uf0, Uc1, Uf1, Uc2, Uf2, Uc3, Uf3, Uc4, Uf4, Uc5, Uf5⟩ := cf6 HU305.out
      obtain ⟨Rc0, Rf0, Rc1, Rf1, Rc2, Rf2, Rc3, Rf3⟩ := cf4 HR310.out
      go_upto_region 17 with fail
      clear Sc0 Sf0 Sc1 Sf1 Sc2 Sf2 Sc3 Sf3 Sc4 Sf4 Sc5 Sf5 Uc0 Uf0 Uc1 Uf1 Uc2 Uf2 Uc3 Uf3 Uc4 Uf4 Uc5 Uf5 Rc0 Rf0 Rc1 Rf1 Rc2 Rf2 Rc3 Rf3
      have HMK312 : Hid (∀ w' : World, w'.heap[UB]? = some (.cells #[.int .i64 s.prins, .int .i64 s.links, .int .i64 s.stmts, .int .i64 s.grow, .int .i64 s.shrink, .int .i64 s.asks] 32) → w'.heap[RB]? = some (.cells #[.slice none 0 0, .slice none 0 0, .slice none 0 0, .slice none 0 0] 57) → w'.cell? ⟨UB, 0, none⟩ = some (.int .i64 s.prins) ∧ w'.cell? ⟨UB, 1, none⟩ = some (.int .i64 s.links) ∧ w'.cell? ⟨UB, 2, none⟩ = some (.int .i64 s.stmts) ∧ w'.cell? ⟨UB, 3, none⟩ = some (.int .i64 s.grow) ∧ w'.cell? ⟨UB, 4, none⟩ = some (.int .i64 s.shrink) ∧ w'.cell? ⟨UB, 5, none⟩ = some (.int .i64 s.asks) ∧ w'.cell? ⟨RB, 0, none⟩ = some (.slice none 0 0) ∧ w'.cell? ⟨RB, 1, none⟩ = some (.slice none 0 0) ∧ w'.cell? ⟨RB, 2, none⟩ = some (.slice none 0 0) ∧ w'.cell? ⟨RB, 3, none⟩ = some (.slice none 0 0) ∧ Hid (w'.heap[UB]? = some (.cells #[.int .i64 s.prins, .int .i64 s.links, .int .i64 s.stmts, .int .i64 s.grow, .int .i64 s.shrink, .int .i64 s.asks] 32) ∧ w'.heap[RB]? = some (.cells #[.slice none 0 0, .slice none 0 0, .slice none 0 0, .slice none 0 0] 57))) := fun w' h0 h1 => ⟨(by rw [cell_of_heap h0]; rfl), (by rw [cell_of_heap h0]; rfl), (by rw [cell_of_heap h0]; rfl), (by rw [cell_of_heap h0]; rfl), (by rw [cell_of_heap h0]; rfl), (by rw [cell_of_heap h0]; rfl), (by rw [cell_of_heap h1]; rfl), (by rw [cell_of_heap h1]; rfl), (by rw [cell_of_heap h1]; rfl), (by rw [cell_of_heap h1]; rfl), Lib.hid ⟨h0, h1⟩⟩
      have hkd : Keeps (fun _ => False) w302 w302.drew := (Keeps.refl _ _).drew
      have HS313 := Lib.hid (((hkd).block _ (lt_of_heap HS304.out) (fun x => x)).trans HS304.out)
      have HU314 := Lib.hid (((hkd).block _ (lt_of_heap HU305.out) (fun x => x)).trans HU305.out)
      have HO315 := Lib.hid (((hkd).block _ (lt_of_heap HO306.out) (fun x => x)).trans HO306.out)
      have HR316 := Lib.hid (((hkd).block _ (lt_of_heap HR310.out) (fun x => x)).trans HR310.out)
      have HE317 := Lib.hid (StB.keeps HE307.out (hkd) (fun x => x))
      have HE318 := Lib.hid (PolX.into HPA.out (hkd) (fun _ _ _ x => x) (fun _ _ p => p))
      have HS319 := Lib.hid (HS308.out.keeps hkd (fun x => x))
      have HK320 := Lib.hid (HK309.out.drew)
      have hS0 := HMK312.out w302.drew HU314.out HR316.out
      clear hkd HS304 HU305 HO306 HR310 HE307 HPA HS308 HK309
      refine wp_region_noPanic ?_
      refine wp_region_held_drew (S := (fun w' => w'.cell? ⟨UB, 0, none⟩ = some (.int .i64 s.prins) ∧ w'.cell? ⟨UB, 1, none⟩ = some (.int .i64 s.links) ∧ w'.cell? ⟨UB, 2, none⟩ = some (.int .i64 s.stmts) ∧ w'.cell? ⟨UB, 3, none⟩ = some (.int .i64 s.grow) ∧ w'.cell? ⟨UB, 4, none⟩ = some (.int .i64 s.shrink) ∧ w'.cell? ⟨UB, 5, none⟩ = some (.int .i64 s.asks) ∧ w'.cell? ⟨RB, 0, none⟩ = some (.slice none 0 0) ∧ w'.cell? ⟨RB, 1, none⟩ = some (.slice none 0 0) ∧ w'.cell? ⟨RB, 2, none⟩ = some (.slice none 0 0) ∧ w'.cell? ⟨RB, 3, none⟩ = some (.slice none 0 0) ∧ Hid (w'.heap[UB]? = some (.cells #[.int .i64 s.prins, .int .i64 s.links, .int .i64 s.stmts, .int .i64 s.grow, .int .i64 s.shrink, .int .i64 s.asks] 32) ∧ w'.heap[RB]? = some (.cells #[.slice none 0 0, .slice none 0 0, .slice none 0 0, .slice none 0 0] 57)))) (by kernel_rfl) hS0 (fun hHeld => ?_)
      clear hS0
      generalize w302.drew = w321 at *
      refine wpAnyH_take_at (i := 0) (v := ?v0_322) rfl (by kernel_rfl) (by kernel_rfl) (by kernel_rfl) (fun _ _ _ h => h) (Or.inl ⟨by rfl, ?y0_322⟩) hHeld ?r0_322
      case y0_322 => (intro w hSw; (try dsimp only at hSw); go_simp; first | done | with_reducible rfl)
      (try simp only [Act.put, nm1, nm2, nm3])
      refine wpAnyH_take_at (i := 1) (v := ?v1_323) rfl (by kernel_rfl) (by kernel_rfl) (by kernel_rfl) (fun _ _ _ h => h) (Or.inl ⟨by rfl, ?y1_323⟩) hHeld ?r1_323
      case y1_323 => (intro w hSw; (try dsimp only at hSw); go_simp; first | done | with_reducible rfl)
      (try simp only [Act.put, nm1, nm2, nm3])
      refine wpAnyH_take_at (i := 3) (v := ?v3_324) rfl (by kernel_rfl) (by kernel_rfl) (by kernel_rfl) (fun _ _ _ h => h) (Or.inl ⟨by rfl, ?y3_324⟩) hHeld ?r3_324
      case y3_324 => (intro w hSw; (try dsimp only at hSw); go_simp; first | done | with_reducible rfl)
      (try simp only [Act.put, nm1, nm2, nm3])
      refine wpAnyH_one (i := 2) (by kernel_rfl) rfl (fun KK hK => ?_)
      go_simp
      refine (HB.out _ HS319.out).mono ?_
      rintro e w325 ⟨dv0, dv1, dv2, dv3, rfl, hk⟩
      have HPB : Hid (PolX w325 dv0 dv1 dv2 dv3 np (fun _ => True)) := hk.out.2.2.into (Keeps.refl (fun _ => False) _) (fun _ _ _ x => x) (fun _ _ _ => trivial)
      have HKB : Hid (StB w325 67 bd y ∧ Keeps (fun q => q = bd) w321 w325) := ⟨hk.out.1, hk.out.2.1⟩
      clear hk
      obtain ⟨dp0, dp1, dp2, dp3⟩ := id HPB.out
      obtain ⟨do0, dc0, du0, dz0⟩ := id dp0.1.1
      obtain ⟨do1, dc1, du1, dz1⟩ := id dp1.1.1
      obtain ⟨do2, dc2, du2, dz2⟩ := id dp2.1.1
      obtain ⟨dlv, dd1, dd2, dd3⟩ := id dp3
      obtain ⟨do3, dc3, du3, dz3⟩ := id dd2.1.1
      clear dz0 dz1 dz2 dz3 dd1 dd2 dd3 dp0 dp1 dp2 dp3
      subst du0 du1 du2 du3
      generalize dlv.length = dn3 at *
      clear dlv
      have HS326 := Lib.hid (((HKB.out.2).block _ (lt_of_heap HS313.out) (by have := HN311.out; show ¬ _ = _; omega)).trans HS313.out)
      have HU327 := Lib.hid (((HKB.out.2).block _ (lt_of_heap HU314.out) (by have := HN311.out; show ¬ _ = _; omega)).trans HU314.out)
      have HO328 := Lib.hid (((HKB.out.2).block _ (lt_of_heap HO315.out) (by have := HN311.out; show ¬ _ = _; omega)).trans HO315.out)
      have HR329 := Lib.hid (((HKB.out.2).block _ (lt_of_heap HR316.out) (by have := HN311.out; show ¬ _ = _; omega)).trans HR316.out)
      have HE330 := Lib.hid (StB.keeps HE317.out (HKB.out.2) (by have := HN311.out; show ¬ _ = _; omega))
      have HE331 := Lib.hid (PolX.into HE318.out (HKB.out.2) (fun q hq hp e => by have hp : LA ≤ q := hp; have e : q = _ := e; have := HN311.out; omega) (fun _ _ p => p))
      have HSP : Hid (StB w325 67 bd y) := HKB.out.1
      have HK332 := Lib.hid (HK320.out.trans_new HKB.out.2 (fun q hq e => by have := HN311.out; omega))
      clear HKB HB HS313 HU314 HO315 HR316 HE317 HE318 HS319 HK320
      go_simp
      refine hK.out _ _ ?s_333 (fun hHeld => ?_)
      case s_333 => exact HMK312.out _ HU327.out HR329.out
      clear hK KK
      (try simp only [Act.put, nm1, nm2, nm3])
      have HSM : Hid (Calls Tryz.prog 19 #[.agg #[.slice do0 np.1.length dc0, .slice do1 np.2.1.length dc1, .slice do2 np.2.2.1.length dc2, .slice do3 dn3 dc3], .agg #[.slice none 0 0, .slice none 0 0, .slice none 0 0, .slice none 0 0]] w325 fun e W' => e = .returned (.bool true) ∧ Hid (Keeps (fun _ => False) w325 W')) := polsame_spec HPB.out HE331.out HFW.out.1 HFW.out.2.1 HFW.out.2.2.1 HFW.out.2.2.2.1 HFW.out.2.2.2.2
      refine wpAnyH_one (i := 4) (by kernel_rfl) rfl (fun KK hK => ?_)
      go_simp
      refine HSM.out.mono ?_
      rintro e w334 ⟨rfl, hk⟩
      have HS335 := Lib.hid (((hk.out).block _ (lt_of_heap HS326.out) (fun x => x)).trans HS326.out)
      have HU336 := Lib.hid (((hk.out).block _ (lt_of_heap HU327.out) (fun x => x)).trans HU327.out)
      have HO337 := Lib.hid (((hk.out).block _ (lt_of_heap HO328.out) (fun x => x)).trans HO328.out)
      have HR338 := Lib.hid (((hk.out).block _ (lt_of_heap HR329.out) (fun x => x)).trans HR329.out)
      have HE339 := Lib.hid (StB.keeps HE330.out (hk.out) (fun x => x))
      have HS340 := Lib.hid (HSP.out.keeps hk.out (fun x => x))
      have HK341 := Lib.hid (HK332.out.trans hk.out)
      clear hk HSM HPB HE331 HFW HS326 HU327 HO328 HR329 HE330 HSP HK332
      go_simp
      refine hK.out _ _ ?s_342 (fun hHeld => ?_)
      case s_342 => exact HMK312.out _ HU336.out HR338.out
      clear hK KK
      (try simp only [Act.put, nm1, nm2, nm3])
      refine wpAnyH_one (i := 5) (by kernel_rfl) rfl (fun KK hK => ?_)
      go_simp
      refine hK.out _ _ ?s_343 (fun hHeld => ?_)
      case s_343 => exact HMK312.out _ HU336.out HR338.out
      clear hK KK
      (try simp only [Act.put, nm1, nm2, nm3])
      refine wpAnyH_done (by kernel_rfl) ?_ _
      refine NoPanic.normal ?_
      clear hHeld HMK312
      go_upto_region 37 with fail
      have HN2 : Hid (StB w334 67 bd y ∧ StB w334 30 bx y ∧ Keeps (fun _ => False) W w334 ∧ w334.heap[SB]? = some (.cells #[.int .i64 s.prins, .int .i64 s.links, .int .i64 s.stmts, .int .i64 s.grow, .int .i64 s.shrink, .int .i64 s.asks] 24) ∧ w334.heap[UB]? = some (.cells #[.int .i64 s.prins, .int .i64 s.links, .int .i64 s.stmts, .int .i64 s.grow, .int .i64 s.shrink, .int .i64 s.asks] 32)) := ⟨HS340.out, HE339.out, HK341.out, HS335.out, HU336.out⟩
      clear HS340 HE339 HK341 HS335 HU336
      go_wp2_with fail
      go_roundg (n - (i + 1))
      case measure => omega
      case rel => exact ⟨i + 1, y, by omega, hi4, rfl, by go_num, HN2⟩
     | true =>
      obtain ⟨LA, hLA⟩ : ∃ q, w302.heap.size = q := ⟨_, rfl⟩
      have HN344 : Hid (((((W.heap.size ≤ SB ∧ SB < bd ∧ bd < bx) ∧ W.heap.size ≤ UB ∧ SB < UB ∧ bd < UB ∧ bx < UB) ∧ W.heap.size ≤ OB ∧ SB < OB ∧ UB < OB ∧ bd < OB ∧ bx < OB) ∧ W.heap.size ≤ RB ∧ SB < RB ∧ UB < RB ∧ OB < RB ∧ bd < RB ∧ bx < RB) ∧ SB < LA ∧ UB < LA ∧ OB < LA ∧ RB < LA ∧ bd < LA ∧ bx < LA) := ⟨HN303.out, by
       have l0 := lt_of_heap HS304.out
       have l1 := lt_of_heap HU305.out
       have l2 := lt_of_heap HO306.out
       have l3 := lt_of_heap HR310.out
       have ld := lt_of_heap HS308.out.1
       have lx := lt_of_heap HE307.out.1
       refine ⟨?_, ?_, ?_, ?_, ?_, ?_⟩ <;> omega⟩
      clear HN303
      have HA : Hid (∀ W, StB W 30 bx y → Calls Tryz.prog 18 #[.pointer (some ⟨bx, 0, none⟩), .agg #[.int .i64 s.prins, .int .i64 s.links, .int .i64 s.stmts, .int .i64 s.grow, .int .i64 s.shrink, .int .i64 s.asks]] W (PolDr W 30 bx (polD y s).1 (polD y s).2)) := fun W h => HC5R.out HOK.out y W h
      have HB : Hid (∀ W, StB W 67 bd y → Calls Tryz.prog 20 #[.pointer (some ⟨bd, 0, none⟩), .agg #[.int .i64 s.prins, .int .i64 s.links, .int .i64 s.stmts, .int .i64 s.grow, .int .i64 s.shrink, .int .i64 s.asks]] W (PolDr W 67 bd (polD y s).1 (polD y s).2)) := fun W h => by
       have q := HC5D.out y W h
       unfold orD at q
       rw [if_pos HOK.out] at q
       exact q
      have HFW := Lib.hid (pol_few y s HOK.out)
      obtain ⟨⟨np, y2⟩, hq⟩ : ∃ q, polD y s = q := ⟨_, rfl⟩
      rw [hq] at HA HB HFW
      simp only at HFW
      clear hq
      obtain ⟨Sc0, Sf0, Sc1, Sf1, Sc2, Sf2, Sc3, Sf3, Sc4, Sf4, Sc5, Sf5⟩ := cf6 HS304.out
      obtain ⟨Uc0, Uf0, Uc1, Uf1, Uc2, Uf2, Uc3, Uf3, Uc4, Uf4, Uc5, Uf5⟩ := cf6 HU305.out
      obtain ⟨Rc0, Rf0, Rc1, Rf1, Rc2, Rf2, Rc3, Rf3⟩ := cf4 HR310.out
      go_wp2_with fail
      refine (HA.out _ HE307.out).mono ?_
      rintro e w345 ⟨cv0, cv1, cv2, cv3, rfl, hk⟩
      have HPA : Hid (PolX w345 cv0 cv1 cv2 cv3 np (fun k => LA ≤ k)) := by rw [← hLA]; exact hk.out.2.2
      have HKA : Hid (StB w345 30 bx y2 ∧ Keeps (fun q => q = bx) w302 w345) := ⟨hk.out.1, hk.out.2.1⟩
      clear hk
      obtain ⟨cp0, cp1, cp2, cp3⟩ := id HPA.out
      obtain ⟨co0, cc0, cu0, cz0⟩ := id cp0.1.1
      obtain ⟨co1, cc1, cu1, cz1⟩ := id cp1.1.1
      obtain ⟨co2, cc2, cu2, cz2⟩ := id cp2.1.1
      obtain ⟨clv, cd1, cd2, cd3⟩ := id cp3
      obtain ⟨co3, cc3, cu3, cz3⟩ := id cd2.1.1
      clear cz0 cz1 cz2 cz3 cd1 cd2 cd3 cp0 cp1 cp2 cp3
      subst cu0 cu1 cu2 cu3
      generalize clv.length = cn3 at *
      clear clv
      have HS346 := Lib.hid (((HKA.out.2).block _ (lt_of_heap HS304.out) (by have := HN344.out; show ¬ _ = _; omega)).trans HS304.out)
      have HU347 := Lib.hid (((HKA.out.2).block _ (lt_of_heap HU305.out) (by have := HN344.out; show ¬ _ = _; omega)).trans HU305.out)
      have HO348 := Lib.hid (((HKA.out.2).block _ (lt_of_heap HO306.out) (by have := HN344.out; show ¬ _ = _; omega)).trans HO306.out)
      have HR349 := Lib.hid (((HKA.out.2).block _ (lt_of_heap HR310.out) (by have := HN344.out; show ¬ _ = _; omega)).trans HR310.out)
      have HE350 := Lib.hid (StB.keeps HS308.out (HKA.out.2) (by have := HN344.out; show ¬ _ = _; omega))
      have HSQ : Hid (StB w345 30 bx y2) := HKA.out.1
      have HK351 := Lib.hid (HK309.out.trans_new HKA.out.2 (fun q hq e => by have := HN344.out; omega))
      clear Sc0 Sf0 Sc1 Sf1 Sc2 Sf2 Sc3 Sf3 Sc4 Sf4 Sc5 Sf5 Uc0 Uf0 Uc1 Uf1 Uc2 Uf2 Uc3 Uf3 Uc4 Uf4 Uc5 Uf5 Rc0 Rf0 Rc1 Rf1 Rc2 Rf2 Rc3 Rf3
      clear HKA HA hLA HS304 HU305 HO306 HR310 HS308 HE307 HK309
      obtain ⟨Rc0, Rf0, Rc1, Rf1, Rc2, Rf2, Rc3, Rf3⟩ := cf4 HR349.out
      obtain ⟨hs0, hkE⟩ := sx4 HR349.out (.slice co0 np.1.length cc0) (.slice co1 np.2.1.length cc1) (.slice co2 np.2.2.1.length cc2) (.slice co3 cn3 cc3)
      have HR353 := Lib.hid hs0
      have HS354 := Lib.hid (((hkE).block _ (lt_of_heap HS346.out) (by have := HN344.out; show ¬ _ = _; omega)).trans HS346.out)
      have HU355 := Lib.hid (((hkE).block _ (lt_of_heap HU347.out) (by have := HN344.out; show ¬ _ = _; omega)).trans HU347.out)
      have HO356 := Lib.hid (((hkE).block _ (lt_of_heap HO348.out) (by have := HN344.out; show ¬ _ = _; omega)).trans HO348.out)
      have HE357 := Lib.hid (StB.keeps HSQ.out (hkE) (by have := HN344.out; show ¬ _ = _; omega))
      have HE358 := Lib.hid (PolX.into HPA.out (hkE) (fun q hq hp e => by have hp : LA ≤ q := hp; have e : q = _ := e; have := HN344.out; omega) (fun _ _ p => p))
      have HS359 := Lib.hid (HE350.out.keeps hkE (by have := HN344.out; show ¬ _ = _; omega))
      have HK360 := Lib.hid (HK351.out.trans_new hkE (fun q hq e => by have := HN344.out; omega))
      clear hkE hs0 HR349 HS346 HU347 HO348 HSQ HPA HE350 HK351
      go_upto_region 17 with fail
      clear Rc0 Rf0 Rc1 Rf1 Rc2 Rf2 Rc3 Rf3
      generalize ((((w345.setCell ⟨RB, 0, none⟩ (.slice co0 np.1.length cc0)).setCell ⟨RB, 1, none⟩ (.slice co1 np.2.1.length cc1)).setCell ⟨RB, 2, none⟩ (.slice co2 np.2.2.1.length cc2)).setCell ⟨RB, 3, none⟩ (.slice co3 cn3 cc3)) = w352 at *
      have HMK361 : Hid (∀ w' : World, w'.heap[UB]? = some (.cells #[.int .i64 s.prins, .int .i64 s.links, .int .i64 s.stmts, .int .i64 s.grow, .int .i64 s.shrink, .int .i64 s.asks] 32) → w'.heap[RB]? = some (.cells #[.slice co0 np.1.length cc0, .slice co1 np.2.1.length cc1, .slice co2 np.2.2.1.length cc2, .slice co3 cn3 cc3] 57) → w'.cell? ⟨UB, 0, none⟩ = some (.int .i64 s.prins) ∧ w'.cell? ⟨UB, 1, none⟩ = some (.int .i64 s.links) ∧ w'.cell? ⟨UB, 2, none⟩ = some (.int .i64 s.stmts) ∧ w'.cell? ⟨UB, 3, none⟩ = some (.int .i64 s.grow) ∧ w'.cell? ⟨UB, 4, none⟩ = some (.int .i64 s.shrink) ∧ w'.cell? ⟨UB, 5, none⟩ = some (.int .i64 s.asks) ∧ w'.cell? ⟨RB, 0, none⟩ = some (.slice co0 np.1.length cc0) ∧ w'.cell? ⟨RB, 1, none⟩ = some (.slice co1 np.2.1.length cc1) ∧ w'.cell? ⟨RB, 2, none⟩ = some (.slice co2 np.2.2.1.length cc2) ∧ w'.cell? ⟨RB, 3, none⟩ = some (.slice co3 cn3 cc3) ∧ Hid (w'.heap[UB]? = some (.cells #[.int .i64 s.prins, .int .i64 s.links, .int .i64 s.stmts, .int .i64 s.grow, .int .i64 s.shrink, .int .i64 s.asks] 32) ∧ w'.heap[RB]? = some (.cells #[.slice co0 np.1.length cc0, .slice co1 np.2.1.length cc1, .slice co2 np.2.2.1.length cc2, .slice co3 cn3 cc3] 57))) := fun w' h0 h1 => ⟨(by rw [cell_of_heap h0]; rfl), (by rw [cell_of_heap h0]; rfl), (by rw [cell_of_heap h0]; rfl), (by rw [cell_of_heap h0]; rfl), (by rw [cell_of_heap h0]; rfl), (by rw [cell_of_heap h0]; rfl), (by rw [cell_of_heap h1]; rfl), (by rw [cell_of_heap h1]; rfl), (by rw [cell_of_heap h1]; rfl), (by rw [cell_of_heap h1]; rfl), Lib.hid ⟨h0, h1⟩⟩
      have hkd : Keeps (fun _ => False) w352 w352.drew := (Keeps.refl _ _).drew
      have HS362 := Lib.hid (((hkd).block _ (lt_of_heap HS354.out) (fun x => x)).trans HS354.out)
      have HU363 := Lib.hid (((hkd).block _ (lt_of_heap HU355.out) (fun x => x)).trans HU355.out)
      have HO364 := Lib.hid (((hkd).block _ (lt_of_heap HO356.out) (fun x => x)).trans HO356.out)
      have HR365 := Lib.hid (((hkd).block _ (lt_of_heap HR353.out) (fun x => x)).trans HR353.out)
      have HE366 := Lib.hid (StB.keeps HE357.out (hkd) (fun x => x))
      have HE367 := Lib.hid (PolX.into HE358.out (hkd) (fun _ _ _ x => x) (fun _ _ p => p))
      have HS368 := Lib.hid (HS359.out.keeps hkd (fun x => x))
      have HK369 := Lib.hid (HK360.out.drew)
      have hS0 := HMK361.out w352.drew HU363.out HR365.out
      clear hkd HS354 HU355 HO356 HR353 HE357 HE358 HS359 HK360
      refine wp_region_noPanic ?_
      refine wp_region_held_drew (S := (fun w' => w'.cell? ⟨UB, 0, none⟩ = some (.int .i64 s.prins) ∧ w'.cell? ⟨UB, 1, none⟩ = some (.int .i64 s.links) ∧ w'.cell? ⟨UB, 2, none⟩ = some (.int .i64 s.stmts) ∧ w'.cell? ⟨UB, 3, none⟩ = some (.int .i64 s.grow) ∧ w'.cell? ⟨UB, 4, none⟩ = some (.int .i64 s.shrink) ∧ w'.cell? ⟨UB, 5, none⟩ = some (.int .i64 s.asks) ∧ w'.cell? ⟨RB, 0, none⟩ = some (.slice co0 np.1.length cc0) ∧ w'.cell? ⟨RB, 1, none⟩ = some (.slice co1 np.2.1.length cc1) ∧ w'.cell? ⟨RB, 2, none⟩ = some (.slice co2 np.2.2.1.length cc2) ∧ w'.cell? ⟨RB, 3, none⟩ = some (.slice co3 cn3 cc3) ∧ Hid (w'.heap[UB]? = some (.cells #[.int .i64 s.prins, .int .i64 s.links, .int .i64 s.stmts, .int .i64 s.grow, .int .i64 s.shrink, .int .i64 s.asks] 32) ∧ w'.heap[RB]? = some (.cells #[.slice co0 np.1.length cc0, .slice co1 np.2.1.length cc1, .slice co2 np.2.2.1.length cc2, .slice co3 cn3 cc3] 57)))) (by kernel_rfl) hS0 (fun hHeld => ?_)
      clear hS0
      generalize w352.drew = w370 at *
      refine wpAnyH_take_at (i := 0) (v := ?v0_371) rfl (by kernel_rfl) (by kernel_rfl) (by kernel_rfl) (fun _ _ _ h => h) (Or.inl ⟨by rfl, ?y0_371⟩) hHeld ?r0_371
      case y0_371 => (intro w hSw; (try dsimp only at hSw); go_simp; first | done | with_reducible rfl)
      (try simp only [Act.put, nm1, nm2, nm3])
      refine wpAnyH_take_at (i := 1) (v := ?v1_372) rfl (by kernel_rfl) (by kernel_rfl) (by kernel_rfl) (fun _ _ _ h => h) (Or.inl ⟨by rfl, ?y1_372⟩) hHeld ?r1_372
      case y1_372 => (intro w hSw; (try dsimp only at hSw); go_simp; first | done | with_reducible rfl)
      (try simp only [Act.put, nm1, nm2, nm3])
      refine wpAnyH_take_at (i := 3) (v := ?v3_373) rfl (by kernel_rfl) (by kernel_rfl) (by kernel_rfl) (fun _ _ _ h => h) (Or.inl ⟨by rfl, ?y3_373⟩) hHeld ?r3_373
      case y3_373 => (intro w hSw; (try dsimp only at hSw); go_simp; first | done | with_reducible rfl)
      (try simp only [Act.put, nm1, nm2, nm3])
      refine wpAnyH_one (i := 2) (by kernel_rfl) rfl (fun KK hK => ?_)
      go_simp
      refine (HB.out _ HS368.out).mono ?_
      rintro e w374 ⟨dv0, dv1, dv2, dv3, rfl, hk⟩
      have HPB : Hid (PolX w374 dv0 dv1 dv2 dv3 np (fun _ => True)) := hk.out.2.2.into (Keeps.refl (fun _ => False) _) (fun _ _ _ x => x) (fun _ _ _ => trivial)
      have HKB : Hid (StB w374 67 bd y2 ∧ Keeps (fun q => q = bd) w370 w374) := ⟨hk.out.1, hk.out.2.1⟩
      clear hk
      obtain ⟨dp0, dp1, dp2, dp3⟩ := id HPB.out
      obtain ⟨do0, dc0, du0, dz0⟩ := id dp0.1.1
      obtain ⟨do1, dc1, du1, dz1⟩ := id dp1.1.1
      obtain ⟨do2, dc2, du2, dz2⟩ := id dp2.1.1
      obtain ⟨dlv, dd1, dd2, dd3⟩ := id dp3
      obtain ⟨do3, dc3, du3, dz3⟩ := id dd2.1.1
      clear dz0 dz1 dz2 dz3 dd1 dd2 dd3 dp0 dp1 dp2 dp3
      subst du0 du1 du2 du3
      generalize dlv.length = dn3 at *
      clear dlv
      have HS375 := Lib.hid (((HKB.out.2).block _ (lt_of_heap HS362.out) (by have := HN344.out; show ¬ _ = _; omega)).trans HS362.out)
      have HU376 := Lib.hid (((HKB.out.2).block _ (lt_of_heap HU363.out) (by have := HN344.out; show ¬ _ = _; omega)).trans HU363.out)
      have HO377 := Lib.hid (((HKB.out.2).block _ (lt_of_heap HO364.out) (by have := HN344.out; show ¬ _ = _; omega)).trans HO364.out)
      have HR378 := Lib.hid (((HKB.out.2).block _ (lt_of_heap HR365.out) (by have := HN344.out; show ¬ _ = _; omega)).trans HR365.out)
      have HE379 := Lib.hid (StB.keeps HE366.out (HKB.out.2) (by have := HN344.out; show ¬ _ = _; omega))
      have HE380 := Lib.hid (PolX.into HE367.out (HKB.out.2) (fun q hq hp e => by have hp : LA ≤ q := hp; have e : q = _ := e; have := HN344.out; omega) (fun _ _ p => p))
      have HSP : Hid (StB w374 67 bd y2) := HKB.out.1
      have HK381 := Lib.hid (HK369.out.trans_new HKB.out.2 (fun q hq e => by have := HN344.out; omega))
      clear HKB HB HS362 HU363 HO364 HR365 HE366 HE367 HS368 HK369
      go_simp
      refine hK.out _ _ ?s_382 (fun hHeld => ?_)
      case s_382 => exact HMK361.out _ HU376.out HR378.out
      clear hK KK
      (try simp only [Act.put, nm1, nm2, nm3])
      have HSM : Hid (Calls Tryz.prog 19 #[.agg #[.slice do0 np.1.length dc0, .slice do1 np.2.1.length dc1, .slice do2 np.2.2.1.length dc2, .slice do3 dn3 dc3], .agg #[.slice co0 np.1.length cc0, .slice co1 np.2.1.length cc1, .slice co2 np.2.2.1.length cc2, .slice co3 cn3 cc3]] w374 fun e W' => e = .returned (.bool true) ∧ Hid (Keeps (fun _ => False) w374 W')) := polsame_spec HPB.out HE380.out HFW.out.1 HFW.out.2.1 HFW.out.2.2.1 HFW.out.2.2.2.1 HFW.out.2.2.2.2
      refine wpAnyH_one (i := 4) (by kernel_rfl) rfl (fun KK hK => ?_)
      go_simp
      refine HSM.out.mono ?_
      rintro e w383 ⟨rfl, hk⟩
      have HS384 := Lib.hid (((hk.out).block _ (lt_of_heap HS375.out) (fun x => x)).trans HS375.out)
      have HU385 := Lib.hid (((hk.out).block _ (lt_of_heap HU376.out) (fun x => x)).trans HU376.out)
      have HO386 := Lib.hid (((hk.out).block _ (lt_of_heap HO377.out) (fun x => x)).trans HO377.out)
      have HR387 := Lib.hid (((hk.out).block _ (lt_of_heap HR378.out) (fun x => x)).trans HR378.out)
      have HE388 := Lib.hid (StB.keeps HE379.out (hk.out) (fun x => x))
      have HS389 := Lib.hid (HSP.out.keeps hk.out (fun x => x))
      have HK390 := Lib.hid (HK381.out.trans hk.out)
      clear hk HSM HPB HE380 HFW HS375 HU376 HO377 HR378 HE379 HSP HK381
      go_simp
      refine hK.out _ _ ?s_391 (fun hHeld => ?_)
      case s_391 => exact HMK361.out _ HU385.out HR387.out
      clear hK KK
      (try simp only [Act.put, nm1, nm2, nm3])
      refine wpAnyH_one (i := 5) (by kernel_rfl) rfl (fun KK hK => ?_)
      go_simp
      refine hK.out _ _ ?s_392 (fun hHeld => ?_)
      case s_392 => exact HMK361.out _ HU385.out HR387.out
      clear hK KK
      (try simp only [Act.put, nm1, nm2, nm3])
      refine wpAnyH_done (by kernel_rfl) ?_ _
      refine NoPanic.normal ?_
      clear hHeld HMK361
      go_upto_region 37 with fail
      have HN2 : Hid (StB w383 67 bd y2 ∧ StB w383 30 bx y2 ∧ Keeps (fun _ => False) W w383 ∧ w383.heap[SB]? = some (.cells #[.int .i64 s.prins, .int .i64 s.links, .int .i64 s.stmts, .int .i64 s.grow, .int .i64 s.shrink, .int .i64 s.asks] 24) ∧ w383.heap[UB]? = some (.cells #[.int .i64 s.prins, .int .i64 s.links, .int .i64 s.stmts, .int .i64 s.grow, .int .i64 s.shrink, .int .i64 s.asks] 32)) := ⟨HS389.out, HE388.out, HK390.out, HS384.out, HU385.out⟩
      clear HS389 HE388 HK390 HS384 HU385
      go_wp2_with fail
      go_roundg (n - (i + 1))
      case measure => omega
      case rel => exact ⟨i + 1, y2, by omega, hi4, rfl, by go_num, HN2⟩
  ·obtain rfl : n = i := by omega
   have hiI : ¬ (n : Int) < (n : Int) := by omega
   go_wp2_with fail
   refine (HLV.out _).mono ?_
   rintro e we ⟨rfl, hb⟩
   have HE := Lib.hid (HK1.out.trans (Keeps.of_below hb (Nat.le_refl _)))
   clear hb
   go_wp2_with fail
   go_ret
   exact ⟨rfl, HE⟩
theorem shp_of_fits {c : Array Value} (hs : c.size = 6) (hf : Fits [.int .i64, .int .i64, .int .i64, .int .i64, .int .i64, .int .i64] 0 c.toList) : ∃ s : Shp, .agg c = ShpV s := by
 obtain ⟨l⟩ := c
 match l, hs with
 | [a, b, d, e, f, g], _ =>
  obtain ⟨u0, h0, x0, rfl, _⟩ := hf 0 _ rfl
  obtain ⟨u1, h1, x1, rfl, _⟩ := hf 1 _ rfl
  obtain ⟨u2, h2, x2, rfl, _⟩ := hf 2 _ rfl
  obtain ⟨u3, h3, x3, rfl, _⟩ := hf 3 _ rfl
  obtain ⟨u4, h4, x4, rfl, _⟩ := hf 4 _ rfl
  obtain ⟨u5, h5, x5, rfl, _⟩ := hf 5 _ rfl
  simp at h0 h1 h2 h3 h4 h5
  subst h0 h1 h2 h3 h4 h5
  exact ⟨⟨x0, x1, x2, x3, x4, x5⟩, rfl⟩
theorem drillDraws_walk (w : World) (X : Int) (hX0 : 0 ≤ X) (hX1 : X ≤ 18446744073709551615) (c : Array Value) (hs : c.size = 6) (hf : Fits [.int .i64, .int .i64, .int .i64, .int .i64, .int .i64, .int .i64] 0 c.toList) (ao : Option Addr) (n cap : Nat) (G : Nat → Nat → Value) (R : IsRow w [.int .u64, .int .i64] ao n cap G) :
  Calls Tryz.prog 3 #[.int .u64 X, .agg c, .slice ao n cap] w fun e w' => e = .returned (.bool true) ∧ Below w.heap.size w w' := by
 obtain ⟨s, hsv⟩ := shp_of_fits hs hf
 rw [hsv]
 exact (drillDraws_core w X hX0 hX1 s ao n cap G R).mono fun e w' h => ⟨h.1, h.2.out.below (Nat.le_refl _) (fun _ _ x => x)⟩
end Go.Proofs.YtcdfpnlaklaafaaGreat
