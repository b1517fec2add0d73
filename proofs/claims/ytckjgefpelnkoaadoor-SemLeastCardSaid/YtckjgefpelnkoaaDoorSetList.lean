/-
  The lowest bit's place by the library's table; List of a family of sets.
-/
import Derived.Test.YtckjgefpelnkoaaDoorSetTab
import Derived.Test.YtckjgefpelnkoaaDoorSetListPlain
import Derived.Shelf.Spec.TrailingZeros
set_option linter.unusedVariables false
set_option linter.unusedSimpArgs false
set_option linter.unnecessarySimpa false
namespace Go.Proofs.YtckjgefpelnkoaaDoor
open Go.ChangeShapes Go.WideShapes Go.ChangeAt Go.RowKit Go.Deep SetPlain

/-- The library's table is where it was laid. -/
def TabIn (w : World) : Prop := ∀ j, j < 64 → w.cell? ⟨0, j, none⟩ = some (.int .u8 (Lib.deBruijn64tab.getD j 0))
theorem TabIn.lt {w : World} (h : TabIn w) : 0 < w.heap.size := lt_of_cell (h 0 (by decide))
theorem TabIn.keeps {w w' : World} (h : TabIn w) {S : Nat → Prop} (hk : Keeps S w w') (hs : ¬ S 0) : TabIn w' := fun j hj => (hk.cell (p := ⟨0, j, none⟩) h.lt hs).trans (h j hj)
theorem TabIn.below {w w' : World} (h : TabIn w) {B : Nat} (hb : Below B w w') (hB : 0 < B) : TabIn w' := fun j hj => (hb.cell (p := ⟨0, j, none⟩) hB).trans (h j hj)

set_option maxRecDepth 10000 in
set_option maxHeartbeats 800000 in
theorem tz_core (x k idx : Nat) (w : World) (hx0 : ((x : Int) == 0) = false)
    (key : IntKind.u64.wrap (bits BinOp.and IntKind.u64 (x : Int) (IntKind.u64.wrap (-(x : Int))) * 285870213051353865) / 288230376151711744 = (idx : Int))
    (hi : idx < 64) (hk : k < 64) (hcell : w.cell? ⟨0, idx, none⟩ = some (.int .u8 k)) :
    Calls Tryd.prog 33 #[.int .u64 x] w fun e w' => e = .returned (.int .i64 k) ∧ w = w' := by
  go_enter Tryd.func33, Tryd.ntmps33
  go_wp2_with (simp only [key])
  go_ret
  exact ⟨rfl, rfl⟩
theorem tz_any (x : Nat) (hx : x < 18446744073709551616) (hx0 : x ≠ 0) (w : World) (hT : TabIn w) :
    Calls Tryd.prog 33 #[.int .u64 x] w fun e w' => e = .returned (.int .i64 (Lib.ctz 64 x : Nat)) ∧ w = w' := by
  obtain ⟨hlow, hk⟩ := Lib.lowest_bit 64 x hx0 hx
  obtain ⟨hi, htab⟩ := Lib.deBruijn64_at _ hk
  have hcell := hT _ hi
  rw [htab] at hcell
  exact tz_core x _ _ w (by simp; omega) (tz64_key x _ hx hx0 hlow) hi hk hcell

def intV (x : Nat) : Value := .int .i64 (x : Int)
def ListPost (l : List Nat) (w : World) (e : Ending) (w' : World) : Prop :=
  ∃ v, e = .returned v ∧ w'.ownsRow w.heap.size 3 1 v l.length (l.map intV) ∧ Below w.heap.size w w'
theorem lIntInfo : (Tryd.prog.info? 3).map (fun i => (i.zero, i.size, i.bytes)) = some (some (.int .i64 0), 1, 8) := by kernel_rfl

section
variable {w : World} {b bw : Nat} {rb : Nat → Nat} {R C : Nat} {In : Nat → Nat → Bool} {tot : Nat}
set_option maxRecDepth 100000 in
set_option maxHeartbeats 1600000 in
theorem flist_spec (h : FamMem w b bw rb R C In tot) (hT : TabIn w) (i : Int) : Calls Tryd.prog 26 #[.pointer (some ⟨b, 0, none⟩), .int .i64 i] w (ListPost (listTo (rowP R In i) C) w) := by
  have HR := Lib.hid (frow_spec h i)
  have hat := h.at_ i
  have hC := h.hC
  have hKC := wordsOf_le C
  have hK16 : wordsOf C ≤ 16 := by unfold wordsOf; omega
  have ho := h.rowOut i
  generalize rowV rb R (wordsOf C) i = v at HR hat
  generalize rowP R In i = p at hat ho ⊢
  generalize wordsOf C = K at hat hKC hK16
  have hres : listTo p (64 * K) = listTo p C := by
    obtain ⟨d, hd⟩ : ∃ d, 64 * K = C + d := ⟨64 * K - C, by omega⟩
    rw [hd]; exact listTo_none p C d (fun j _ => ho _ (by omega))
  rw [← hres]
  clear h hres
  obtain ⟨i0, hi, hz0, hz1, hz2⟩ := info_parts lIntInfo
  rcases hat with ⟨rfl, hp⟩ | ⟨g, rfl, hg, hcell⟩
  · have hz : listTo p (64 * K) = [] := by
      have := listTo_none p 0 (64 * K) (fun j _ => hp _)
      rw [Nat.zero_add] at this
      exact this
    rw [hz]
    clear hz hp ho hKC
    go_enter Tryd.func26, Tryd.ntmps26
    go_wp2_with fail
    refine HR.out.mono ?_
    rintro e w' ⟨rfl, rfl⟩
    go_wp2_with fail
    refine wp_loop_rounds 1 ?_
    rw [rounds_succ]
    go_wp2
    go_ret
    exact ⟨_, rfl, World.ownsRow_nil _ _ _ _, Below.refl _ _⟩
  · have HC := Lib.hid hcell
    have HT := Lib.hid hT
    clear hcell ho hKC hT
    go_enter Tryd.func26, Tryd.ntmps26
    go_wp2_with fail
    refine HR.out.mono ?_
    rintro e w' ⟨rfl, rfl⟩
    clear HR
    go_wp2_with fail
    go_loopg [4, 11] K (fun gh s4 s11 wr => ∃ (k : Nat) (v : Value), k ≤ K ∧ gh = K - k ∧ s11 = .int .i64 k ∧ s4 = v ∧ Hid (wr.ownsRow w.heap.size 3 1 v (listTo p (64 * k)).length ((listTo p (64 * k)).map intV)) ∧ Hid (Below w.heap.size w wr))
    case atStart => exact ⟨0, _, Nat.zero_le _, rfl, rfl, rfl, World.ownsRow_nil _ _ _ _, Below.refl _ _⟩
    case round =>
      obtain ⟨k, v, hk, rfl, rfl, rfl, hown, hb⟩ := hrel
      by_cases hlt : k < K
      · have cw := HC.out k hlt
        rw [← hb.out.cell (p := ⟨g, _, none⟩) hg] at cw
        have hkI : (k : Int) < (K : Int) := by omega
        have hL0 := Lib.hid (WLeft.start p k)
        generalize hX0 : wordOf p k = X0 at cw hL0
        clear hX0
        go_wp2_with fail
        clear cw
        go_loopg [4, 6] 64 (fun gh s4 s6 wq => ∃ (t X : Nat) (v : Value), t ≤ 64 ∧ gh = 64 - t ∧ s6 = .int .u64 X ∧ s4 = v ∧ Hid (WLeft p k t X) ∧ Hid (wq.ownsRow w.heap.size 3 1 v (listTo p (64 * k + t)).length ((listTo p (64 * k + t)).map intV)) ∧ Hid (Below w.heap.size w wq))
        case atStart => exact ⟨0, X0, _, by omega, rfl, rfl, rfl, hL0.out, hown.out, hb.out⟩
        case round =>
          clear hown hb hL0
          obtain ⟨t, X, v', ht, rfl, rfl, rfl, hL, hown, hb⟩ := hrel
          by_cases hX : X = 0
          · subst hX
            have hd := Lib.hid hL.out.done
            rw [hd.out] at hown
            clear hd hL
            go_wp2_with fail
            go_roundg (K - (k + 1))
            case measure => omega
            case rel => exact ⟨k + 1, _, by omega, rfl, by go_num, rfl, hown.out, hb.out⟩
          · obtain ⟨hn, hl, htm, hm⟩ := hL.out.next hX
            have hXl := hL.out.1
            have HZ := Lib.hid (tz_any X hXl hX _ (HT.out.below hb.out (HT.out.lt)))
            have hand := u64_and_nat X (X - 1) hXl (by omega)
            have hX1 : ((X : Int) == 0) = false := by simpa using hX
            have hX2 : ((X : Int) != 0) = true := by simpa using hX
            have hsub : IntKind.u64.wrap ((X : Int) - 1) = ((X - 1 : Nat) : Int) := (IntWalk.u64_in _ (by omega)).trans (by omega)
            have hlen : (listTo p (64 * k + t)).length ≤ 64 * k + t := by rw [listTo_len]; exact cnt_le _ _
            have HN := Lib.hid hn; have HL := Lib.hid hl
            generalize Lib.ctz 64 X = m at HN HL HZ htm hm
            generalize X &&& (X - 1) = Y at HN hand
            generalize hx1 : X - 1 = X' at hand hsub
            have hmI : (m : Int) < 64 := by omega
            have hk16 : (k : Int) < 16 := by omega
            have hsum : (k : Int) * 64 + (m : Int) = ((64 * k + m : Nat) : Int) := by omega
            have HSum := Lib.hid hsum
            have how := hown.out
            clear hx1 hL hn hl hX hsum hXl
            go_wp2_with fail
            refine HZ.out.mono ?_
            rintro e w2 ⟨rfl, rfl⟩
            have hzs := hb.out.size
            have hob := Lib.hid (own_block how)
            go_wp2_with (at_builtin; refine wpList_append_own _ rfl _ _ 37 rfl w.heap.size 3 i0 _ 1 8 Tryd.underlying37 hi hz0 hz1 hz2 rfl (by decide) _ _ _ rfl (how.alloc _) ⟨wr.heap.size, 0, none⟩ 1 1 [.int .i64 ((k : Int) * 64 + (m : Int))] rfl rfl (cells_new wr _ _) (by intro u hu; simp only [List.mem_cons, List.not_mem_nil, or_false] at hu; subst hu; rfl) (by unfold maxLen; omega) (by omega) (by simp; omega) ?_)
            intro v2 w2 hown2 hgrow _
            have hnew : Hid (w2.ownsRow w.heap.size 3 1 v2 (listTo p (64 * k + (m + 1))).length ((listTo p (64 * k + (m + 1))).map intV)) := by
              show w2.ownsRow _ _ _ _ _ _
              rw [HL.out, List.length_append, List.map_append]
              have e : [Value.int .i64 ((k : Int) * 64 + (m : Int))] = [64 * k + m].map intV := by
                rw [HSum.out]; rfl
              rw [← e]
              exact hown2
            have hbn : Hid (Below w.heap.size w w2) := (hb.out.alloc hzs _).trans ((keeps_grown hgrow).below (by simp; omega) (fun k hk e => by have := hob.out k e; omega))
            clear hown2 hgrow how hown hb hzs hob HZ
            go_wp2_with fail
            go_roundg (64 - (m + 1))
            case measure => omega
            case rel => exact ⟨m + 1, Y, _, by omega, rfl, rfl, rfl, HN.out, hnew.out, hbn.out⟩
      · obtain rfl : k = K := by omega
        go_wp2
        go_ret
        exact ⟨_, rfl, hown.out, hb.out⟩
end
end Go.Proofs.YtckjgefpelnkoaaDoor
