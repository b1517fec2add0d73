/-
 So many principals drawn, in order, each once: the program's.
-/
import Derived.Test.YtcdfpnlaklaafaaGreatMA
import Derived.Test.YtcdfpnlaklaafaaGreatDrillStmt
import Derived.Test.YtcdfpnlaklaafaaGreatNameRef
set_option linter.unusedVariables false
set_option linter.unusedSimpArgs false
set_option linter.unnecessarySimpa false
namespace Go.Proofs.YtcdfpnlaklaafaaGreat
open Go.ChangeShapes Go.WideShapes Go.ChangeAt Go.RowKit Go.Deep
theorem who_many (s : Shp) : ∀ (n : Nat) (x : Int), whoD s n x = manyD (fun x => prinD x s) n x
 | 0, x => rfl
 | n + 1, x => by
  show ((prinD x s).1 :: (whoD s n (prinD x s).2).1, (whoD s n (prinD x s).2).2) = _
  rw [who_many s n]
  rfl
theorem who_succ (s : Shp) (n : Nat) (x : Int) : (whoD s (n + 1) x).1 = (whoD s n x).1 ++ [(prinD (whoD s n x).2 s).1] ∧ (whoD s (n + 1) x).2 = (prinD (whoD s n x).2 s).2 := by
 rw [who_many, who_many]
 exact manyD_succ (fun x => prinD x s) n x
theorem who_len (s : Shp) (n : Nat) (x : Int) : (whoD s n x).1.length = n := by rw [who_many]; exact manyD_len _ n x
theorem sortO_tab (l : List Str) : sortO (· < ·) l = tabL l := (tab_eq (sortO_rises strO l) (fun x => sortO_mem l x)).symm
/-- What a drawing of a row of texts leaves. -/
def WhoTo (W : World) (T : TypeId) (b : Nat) (l : List Str) (y : Int) (e : Ending) (W' : World) : Prop := ∃ v', e = .returned v' ∧ Hid (StB W' T b y ∧ Keeps (fun q => q = b) W W' ∧ ReadsS W' v' l ∧ NewIn W v' ∧ ∀ k, v'.ownBlock = some k → k < W'.heap.size)
section
variable {W : World} {b : Nat} {x : Int}
set_option maxRecDepth 100000
set_option maxHeartbeats 3200000
theorem dwho_spec {s : Shp} (hf : fitsD s = true) {n : Nat} (hn : n ≤ 1000) (h : StB W 67 b x) :
  Calls Tryz.prog 34 #[.pointer (some ⟨b, 0, none⟩), ShpV s, .int .i64 n] W (WhoTo W 67 b (sortO (· < ·) (whoD s n x).1) (whoD s n x).2) := by
 rw [sortO_tab]
 have HSU : Hid (∀ i, (whoD s (i + 1) x).1 = (whoD s i x).1 ++ [(prinD (whoD s i x).2 s).1] ∧ (whoD s (i + 1) x).2 = (prinD (whoD s i x).2 s).2) := fun i => who_succ s i x
 have HLE : Hid (∀ i, (whoD s i x).1.length = i) := fun i => who_len s i x
 have HPR : Hid (∀ (y : Int) (W : World), StB W 67 b y → Calls Tryz.prog 28 #[.pointer (some ⟨b, 0, none⟩), ShpV s] W (DrTo W 67 b (encStr8 (prinD y s).1) (prinD y s).2)) := fun y W h => dprin_spec hf h
 have hbl := lt_of_heap h.1
 have hal := (MapKept.heap_alloc W (.cells #[.int .i64 s.prins, .int .i64 s.links, .int .i64 s.stmts, .int .i64 s.grow, .int .i64 s.shrink, .int .i64 s.asks] 32)).1
 obtain ⟨WA, hWA⟩ : ∃ WA, W.alloc (.cells #[.int .i64 s.prins, .int .i64 s.links, .int .i64 s.stmts, .int .i64 s.grow, .int .i64 s.shrink, .int .i64 s.asks] 32) = WA := ⟨_, rfl⟩
 have hkA : Keeps (fun _ => False) W WA := by rw [← hWA]; exact (Keeps.refl _ _).alloc _
 rw [hWA] at hal
 have HB := Lib.hid hal
 have HK0 : Hid (Keeps (fun _ => False) W WA ∧ b < W.heap.size ∧ StB WA 67 b x) := ⟨hkA, hbl, h.keeps hkA (fun x => x)⟩
 clear hal hkA hbl h hf
 unfold ShpV at *
 go_enter Tryz.func34, Tryz.ntmps34
 go_upto_region 1 with fail
 clear hWA
 go_wp2_with fail
 go_loopg [6, 8] n (fun g ov t wx => ∃ i : Nat, i ≤ n ∧ g = n - i ∧ t = .int .i64 i ∧ Hid (StB wx 67 b (whoD s i x).2 ∧ Keeps (fun q => q = b) WA wx ∧ OwnS WA.heap.size wx ov (whoD s i x).1))
 case atStart => exact ⟨0, Nat.zero_le _, rfl, rfl, HK0.out.2.2, Keeps.refl _ _, World.ownsRow_nil _ _ _ _⟩
 case round =>
  obtain ⟨i, hi, rfl, rfl, HI⟩ := hrel
  by_cases hlt : i < n
  ·have hiI : (i : Int) < (n : Int) := by omega
   have hwi : IntKind.i64.wrap ((i : Int) + 1) = (i : Int) + 1 := IntWalk.i64_in _ (by omega)
   have hB := (HI.out.2.1.block _ (lt_of_heap HB.out) (by have := HK0.out.2.1; omega)).trans HB.out
   obtain ⟨p0, p1, p2, p3, p4, p5⟩ := shp_cells hB
   have HC := Lib.hid (HPR.out _ wr HI.out.1)
   obtain ⟨u, hu⟩ : ∃ u, (prinD (whoD s i x).2 s).1 = u := ⟨_, rfl⟩
   have hsu := (HSU.out i).1
   rw [hu] at HC hsu
   have HSN := Lib.hid hsu
   unfold encStr8 at HC
   clear hu hB hsu
   go_wp2_with fail
   refine HC.out.mono ?_
   rintro e w1 ⟨rfl, h1⟩
   have hsz : WA.heap.size ≤ w1.heap.size := (HI.out.2.1.trans h1.out.2).size
   have HW1 : Hid (StB w1 67 b (whoD s (i + 1) x).2 ∧ Keeps (fun q => q = b) WA w1 ∧ OwnS WA.heap.size w1 u6 (whoD s i x).1) := ⟨by rw [(HSU.out i).2]; exact h1.out.1, HI.out.2.1.trans h1.out.2, ownsRow_keeps' HI.out.2.2 h1.out.2 (fun q hq e => by
    have e1 := own_block HI.out.2.2 q hq
    have e2 := HK0.out.2.1
    have e3 := HK0.out.1.size
    omega)⟩
   clear HC h1 HI p0 p1 p2 p3 p4 p5
   go_wp2_with (at_builtin; refine app_src rfl _ _ rfl WA.heap.size _ (whoD s i x).1 rfl (HW1.out.2.2.keeps ((Keeps.refl _ _).alloc _)) _ [u] rfl (one_src w1 u) (by have := HLE.out i; simp; omega) (by simp; omega) ?_)
   intro v2 w2 ho2 hk2
   have kk : Keeps (fun q => WA.heap.size ≤ q) w1 w2 := ((Keeps.refl (fun q => WA.heap.size ≤ q) w1).alloc _).trans hk2
   have HW2 : Hid (StB w2 67 b (whoD s (i + 1) x).2 ∧ Keeps (fun q => q = b) WA w2 ∧ OwnS WA.heap.size w2 v2 (whoD s (i + 1) x).1) := ⟨HW1.out.1.keeps kk (by have := HK0.out.2.1; have := HK0.out.1.size; omega), HW1.out.2.1.trans_new kk (fun q hq e => by omega), by rw [HSN.out]; exact ho2⟩
   clear ho2 hk2 HW1 kk HSN hsz
   go_wp2_with fail
   go_roundg (n - (i + 1))
   case measure => omega
   case rel => exact ⟨i + 1, by omega, rfl, by go_num, HW2⟩
  ·obtain rfl : i = n := by omega
   have hiI : ¬ (i : Int) < (i : Int) := by omega
   obtain ⟨l, hl⟩ : ∃ l, (whoD s i x).1 = l := ⟨_, rfl⟩
   have hll := HLE.out i
   rw [hl] at HI hll
   have HLQ := Lib.hid hl
   clear hl HSU HPR HLE HB
   obtain ⟨ao, cap, hv, hle, _, hno, hb⟩ := own_form HI.out.2.2
   have HK1 : Hid (StB wr 67 b (whoD s i x).2 ∧ Keeps (fun q => q = b) W wr ∧ b < W.heap.size ∧ W.heap.size ≤ WA.heap.size) := ⟨HI.out.1, (HK0.out.1.mono (fun _ _ x => x.elim)).trans HI.out.2.1, HK0.out.2.1, HK0.out.1.size⟩
   rcases Nat.eq_zero_or_pos l.length with h0 | h0
   ·have hl0 := List.eq_nil_of_length_eq_zero h0
    rw [h0] at hv
    subst hv
    have HS : Hid (Calls Tryz.prog 50 #[.slice ao 0 cap] wr fun e w' => e = .returned (.tuple #[]) ∧ w' = wr) := Any.slices_Sort_string_none ssortLays ao cap wr
    have HCO : Hid (Calls Tryz.prog 51 #[.slice ao 0 cap] wr fun e w' => e = .returned (.slice ao 0 cap) ∧ w' = wr) := Any.slices_Compact_string_empty scompactLays ao cap wr
    have HT : Hid (StB wr 67 b (whoD s i x).2 ∧ Keeps (fun q => q = b) W wr ∧ ReadsS wr (.slice ao 0 cap) (tabL l) ∧ NewIn W (.slice ao 0 cap) ∧ ∀ k, (Value.slice ao 0 cap).ownBlock = some k → k < wr.heap.size) := by
     have htl : tabL l = [] := List.eq_nil_of_length_eq_zero (by have := tab_len l; omega)
     refine ⟨HK1.out.1, HK1.out.2.1, ⟨ao, cap, by rw [htl]; rfl, by rw [htl]; exact Nat.zero_le _, fun h => absurd h (by rw [htl]; decide)⟩, fun k hk => Nat.le_trans HK1.out.2.2.2 (own_block HI.out.2.2 k hk), fun k hk => own_lt HI.out.2.2 k hk⟩
    clear hb hno hl0 HI HK1 HK0
    go_wp2_with fail
    refine HS.out.mono ?_
    rintro e w2 ⟨rfl, rfl⟩
    go_wp2_with fail
    refine HCO.out.mono ?_
    rintro e w3 ⟨rfl, rfl⟩
    go_wp2_with fail
    go_ret
    exact ⟨.slice ao 0 cap, rfl, by rw [HLQ.out]; exact HT⟩
   ·obtain ⟨g, rfl⟩ : ∃ g, ao = some ⟨g, 0, none⟩ := by
     cases ao with
     | none => have := (hno rfl).1; omega
     | some a =>
      obtain ⟨q1, q2, _⟩ := hb a rfl
      obtain ⟨x, y, z⟩ := a
      simp only at q1 q2
      subst q1 q2
      exact ⟨x, rfl⟩
    have hgb := own_block HI.out.2.2 g (by rw [hv]; rfl)
    have hgl := own_lt HI.out.2.2 g (by rw [hv]; rfl)
    have hown : wr.ownsRow WA.heap.size 9 1 u6 l.length (sCells l) := HI.out.2.2
    rw [hv] at hown
    have HSO := Lib.hid (ssort_spec (cap := cap) (sholds_own hown) hgl (by omega))
    subst hv
    have HGW : Hid (WA.heap.size ≤ g) := hgb
    have hlq : l.length ≤ 1000 := by omega
    clear hown hb hno HI HK0 hll
    go_wp2_with fail
    refine HSO.out.mono ?_
    rintro e w2 ⟨rfl, h2⟩
    obtain ⟨m, hm⟩ : ∃ m, (l.mergeSort fun x y => decide (x ≤ y)) = m := ⟨_, rfl⟩
    have hml : m.length = l.length := by rw [← hm]; simp
    have HH2 := h2.out.2
    rw [hm] at HH2
    have HCO0 := scompact_spec (cap := cap) HH2 (by omega) (Nat.lt_of_lt_of_le hgl h2.out.1.size) (by omega)
    rw [hml] at HCO0
    have hsup : tabL l = Go.Lib.compact m := by unfold tabL; rw [hm]
    rw [← hsup] at HCO0
    have HCO := Lib.hid HCO0
    have HK2 := Lib.hid h2.out.1
    clear HSO h2 HH2 HCO0 hm hml hsup
    go_wp2_with fail
    refine HCO.out.mono ?_
    rintro e w3 ⟨rfl, h3⟩
    have hsl := tab_len l
    have HT : Hid (StB w3 67 b (whoD s i x).2 ∧ Keeps (fun q => q = b) W w3 ∧ ReadsS w3 (.slice (some ⟨g, 0, none⟩) (tabL l).length cap) (tabL l) ∧ NewIn W (.slice (some ⟨g, 0, none⟩) (tabL l).length cap) ∧ ∀ k, (Value.slice (some ⟨g, 0, none⟩) (tabL l).length cap).ownBlock = some k → k < w3.heap.size) := by
     have kk : Keeps (fun q => q = g) wr w3 := HK2.out.trans h3.out.1
     refine ⟨HK1.out.1.keeps kk (by have := HK1.out.2.2.1; have := HK1.out.2.2.2; have := HGW.out; omega), HK1.out.2.1.trans_new kk (fun q hq e => by have := HGW.out; have := HK1.out.2.2.2; omega), ⟨some ⟨g, 0, none⟩, cap, rfl, by omega, fun h0 => ⟨g, 0, rfl, Nat.lt_of_lt_of_le hgl kk.size, fun j x hj => ?_⟩⟩, fun k hk => by have := HGW.out; have := HK1.out.2.2.2; simp [Value.ownBlock] at hk; omega, fun k hk => by simp [Value.ownBlock] at hk; have := kk.size; omega⟩
     exact h3.out.2 j x hj
    clear HCO h3 HK2 HK1 HGW
    go_wp2_with fail
    go_ret
    exact ⟨.slice (some ⟨g, 0, none⟩) (tabL l).length cap, rfl, by rw [HLQ.out]; exact HT⟩
end
end Go.Proofs.YtcdfpnlaklaafaaGreat
