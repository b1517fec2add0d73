/-
 Regions that draw their order: where two operations are ready, or three.
-/
import Derived.Test.YtckikkkdabpjkaaGreatKit3
import Derived.Test.YtckikkkdabpjkaaGreatKitSq
import Derived.Test.YtckikkkdabpjkaaGreatStmEql
import Derived.Test.YtckikkkdabpjkaaGreatRowAt
import Derived.Deep.LoopGhost
import Derived.BigQuiet
import Derived.Deep.QuietTactic
import Derived.WalkSpells
set_option linter.unusedVariables false
namespace Go.Proofs.YtckikkkdabpjkaaGreat
open Go
theorem wpAnyH_two {P : Program} {md : Region.Mode} {ops : Array Oper} {Q : Exit → Act → World → Prop} {S : World → Prop} {i j : Nat} {o o2 : Oper} {rest rest2 : List Oper} {fuel : Nat} {listed : Array Bool} {a : Act} {w : World} (hr : Region.ready md ops listed = [i, j]) (hi : ops.toList.drop i = o :: rest) (hj : ops.toList.drop j = o2 :: rest2)
 (h : ∀ K' : Act → World → Prop, Shut (∀ a w, S w → (S w → wpAnyH P md ops Q S fuel (listed.setIfInBounds i true) a w) → K' a w) → if Region.wanted o (yielded ops a.tmps) = true then Oper.wp P o a w K' Q else K' (a.put o.dst undef) w)
 (h2 : ∀ K' : Act → World → Prop, Shut (∀ a w, S w → (S w → wpAnyH P md ops Q S fuel (listed.setIfInBounds j true) a w) → K' a w) → if Region.wanted o2 (yielded ops a.tmps) = true then Oper.wp P o2 a w K' Q else K' (a.put o2.dst undef) w) :
 wpAnyH P md ops Q S (fuel + 1) listed a w :=
 wpAnyH_ready hr (by simp) (AllReadyH.cons (get_at hi) h (AllReadyH.cons (get_at hj) h2 AllReadyH.nil))
end Go.Proofs.YtckikkkdabpjkaaGreat
/-
 slices.Index and Contains of roles, of texts; the program's Has.
-/
set_option linter.unusedVariables false
set_option linter.unusedSimpArgs false
set_option linter.unnecessarySimpa false
namespace Go.Proofs.YtckikkkdabpjkaaGreat
open Go.ChangeShapes Go.WideShapes Go.ChangeAt Go.RowKit Go.Deep
/-- What an index says. -/
def IxP (d : Bool) (r : Int) : Prop := (d = true ∧ 0 ≤ r ∧ r ≤ 1000000) ∨ (d = false ∧ r = -1)
theorem mem_at {α : Type} {l : List α} {i : Nat} {y s : α} [Decidable (s ∈ l)] (hy : l[i]? = some y) (h : y = s) : decide (s ∈ l) = true := decide_eq_true (by rw [← h]; exact List.mem_of_getElem? hy)
theorem mem_none {α : Type} {l : List α} {n : Nat} {s : α} [Decidable (s ∈ l)] (hn : l.length = n) (h : ∀ (j : Nat) (y : α), j < n → l[j]? = some y → y ≠ s) : decide (s ∈ l) = false := decide_eq_false fun q => by
 obtain ⟨j, hj⟩ := List.getElem?_of_mem q
 exact h j s (by rw [← hn]; exact (List.getElem?_eq_some_iff.1 hj).1) hj rfl
theorem ne_more {α : Type} {l : List α} {i : Nat} {y s : α} (h : ∀ (j : Nat) (z : α), j < i → l[j]? = some z → z ≠ s) (hy : l[i]? = some y) (hp : y ≠ s) : ∀ (j : Nat) (z : α), j < i + 1 → l[j]? = some z → z ≠ s := fun j z hj hz => by
 rcases Nat.lt_or_ge j i with k | k
 ·exact h j z k hz
 ·obtain rfl : j = i := by omega
  rw [hy] at hz
  rw [← Option.some.inj hz]
  exact hp
set_option maxRecDepth 100000
set_option maxHeartbeats 3200000
theorem rindex_spec {W : World} {v : Value} {l : List Rol} (h : RdK rolE W v l) (hl : l.length ≤ 1000000) (s : Rol) : Calls Tryz.prog 138 #[v, rolV2 s] W fun e W' => ∃ r : Int, e = .returned (.int .i64 r) ∧ Hid (IxP (decide (s ∈ l)) r ∧ KF W W') := by
 obtain ⟨ao, cap, rfl, hle, hr⟩ := h
 obtain ⟨n, hn⟩ : ∃ n, l.length = n := ⟨_, rfl⟩
 rw [hn] at hle hr hl ⊢
 have HR : Hid (0 < n → ∃ g off, ao = some ⟨g, off, none⟩ ∧ g < W.heap.size ∧ ∀ (j : Nat) (x : Rol), l[j]? = some x → ∀ (i : Nat) (u : Value), (rolE.enc x)[i]? = some u → W.cell? ⟨g, off + j * 2 + i, none⟩ = some u) := hr
 have HN := Lib.hid hn
 obtain ⟨d, hd⟩ : ∃ d, decide (s ∈ l) = d := ⟨_, rfl⟩
 have HD : Hid (d = decide (s ∈ l)) := hd.symm
 rw [hd]
 clear hr hn hd
 obtain ⟨s1, s2⟩ := s
 obtain ⟨WA, hWA⟩ : ∃ WA, W.alloc (bR s1 s2) = WA := ⟨_, rfl⟩
 have hal := (MapKept.heap_alloc W (bR s1 s2)).1
 have HK0 : Hid (KF W WA) := by rw [← hWA]; exact (Keeps.refl _ _).alloc _
 rw [hWA] at hal
 have HA := Lib.hid hal
 clear hal
 unfold rolV2
 go_enter Tryz.func138, Tryz.ntmps138
 go_upto_region 1 with fail
 clear hWA
 go_wp2_with fail
 go_loopg [8] n (fun g t wx => ∃ i : Nat, i ≤ n ∧ g = n - i ∧ t = .int .i64 i ∧ Hid (KF WA wx ∧ ∀ (j : Nat) (y : Rol), j < i → l[j]? = some y → y ≠ (s1, s2)))
 case atStart => exact ⟨0, Nat.zero_le _, rfl, rfl, Keeps.refl _ _, fun j y hj _ => absurd hj (Nat.not_lt_zero _)⟩
 case round =>
  obtain ⟨i, hi, rfl, rfl, HI⟩ := hrel
  by_cases hlt : i < n
  ·have hiI : (i : Int) < (n : Int) := by omega
   have hwi : IntKind.i64.wrap ((i : Int) + 1) = (i : Int) + 1 := IntWalk.i64_in _ (by omega)
   obtain ⟨y, hy⟩ : ∃ y, l[i]? = some y := ⟨_, List.getElem?_eq_getElem (by rw [HN.out]; exact hlt)⟩
   obtain ⟨g, off, rfl, hg, hcc⟩ := HR.out (by omega)
   have hicap : i < cap := by omega
   have hkw : KF W wr := HK0.out.trans HI.out.1
   have hA := (HI.out.1.block _ (lt_of_heap HA.out) (fun x => x)).trans HA.out
   obtain ⟨p0, f0, p1, f1⟩ := cf2 hA
   have HY := Lib.hid hy
   obtain ⟨y1, y2⟩ := y
   have q0 : wr.cell? ⟨g, off + i * 2, none⟩ = some (.string ⟨y1.toArray⟩) := (hkw.cell (p := ⟨g, off + i * 2 + 0, none⟩) hg (fun x => x)).trans (hcc i _ hy 0 _ rfl)
   have q1 : wr.cell? ⟨g, off + i * 2 + 1, none⟩ = some (.string ⟨y2.toArray⟩) := (hkw.cell (p := ⟨g, off + i * 2 + 1, none⟩) hg (fun x => x)).trans (hcc i _ hy 1 _ rfl)
   have HIK := Lib.hid HI.out.1
   have HIN := Lib.hid HI.out.2
   obtain ⟨b, hb⟩ : ∃ b, decide (((s1, s2) : Rol) = (y1, y2)) = b := ⟨_, rfl⟩
   have HQ : ∀ w, (binOp .eql 28 (.agg #[.string ⟨s1.toArray⟩, .string ⟨s2.toArray⟩]) (.agg #[.string ⟨y1.toArray⟩, .string ⟨y2.toArray⟩])).run Tryz.prog w = .ok (.bool b) w := fun w => by rw [← hb]; exact rol_eql (s1, s2) (y1, y2) w
   have HBB := Lib.hid hb
   clear hcc hy hA f0 f1 hkw HI hb
   go_upto_region 4 with fail
   have HMK1 : Hid (∀ w' : World, KF wr w' → w'.cell? ⟨W.heap.size, 0, none⟩ = some (.string ⟨s1.toArray⟩) ∧ w'.cell? ⟨W.heap.size, 1, none⟩ = some (.string ⟨s2.toArray⟩) ∧ w'.cell? ⟨g, off + i * 2, none⟩ = some (.string ⟨y1.toArray⟩) ∧ w'.cell? ⟨g, off + i * 2 + 1, none⟩ = some (.string ⟨y2.toArray⟩)) := fun w' hk => ⟨kc hk p0, kc hk p1, kc hk q0, kc hk q1⟩
   have HKX1 : Hid (KF wr wr.drew) := (Keeps.refl _ _).drew
   have hS0 := HMK1.out _ HKX1.out
   clear p0 p1 q0 q1
   refine wp_region_noPanic ?_
   refine wp_region_held_drew (S := (fun w' => w'.cell? ⟨W.heap.size, 0, none⟩ = some (.string ⟨s1.toArray⟩) ∧ w'.cell? ⟨W.heap.size, 1, none⟩ = some (.string ⟨s2.toArray⟩) ∧ w'.cell? ⟨g, off + i * 2, none⟩ = some (.string ⟨y1.toArray⟩) ∧ w'.cell? ⟨g, off + i * 2 + 1, none⟩ = some (.string ⟨y2.toArray⟩))) (by kernel_rfl) hS0 (fun hHeld => ?_)
   clear hS0
   generalize wr.drew = w2 at *
   refine tk 0 rfl hHeld ?_
   refine tk 1 rfl hHeld ?_
   refine tk 2 rfl hHeld ?_
   (try simp only [nz])
   refine on1 3 rfl fun KK hK => ?_
   go_simp
   refine hK.out _ _ (HMK1.out _ HKX1.out) fun hHeld => ?_
   clear hK KK
   refine tk 4 rfl hHeld ?_
   (try simp only [nz])
   refine on1 5 rfl fun KK hK => ?_
   go_simp
   refine hK.out _ _ (HMK1.out _ HKX1.out) fun hHeld => ?_
   clear hK KK
   (try simp only [nz])
   refine wpAnyH_done (by kernel_rfl) ?_ _
   refine NoPanic.normal ?_
   clear hHeld HMK1
   have HK2 : Hid (KF WA w2) := HIK.out.trans HKX1.out
   clear HIK HKX1 HQ
   cases b
   ·have HN2 : Hid (KF WA w2 ∧ ∀ (j : Nat) (y : Rol), j < i + 1 → l[j]? = some y → y ≠ (s1, s2)) := ⟨HK2.out, ne_more HIN.out HY.out (fun e => of_decide_eq_false HBB.out e.symm)⟩
    clear HK2 HIN
    go_wp2_with fail
    go_roundg (n - (i + 1))
    case measure => omega
    case rel => exact ⟨i + 1, by omega, rfl, by go_num, HN2⟩
   ·have HP : Hid (IxP d (i : Int) ∧ KF W w2) := ⟨.inl ⟨by rw [HD.out]; exact mem_at HY.out (of_decide_eq_true HBB.out).symm, by omega, by omega⟩, HK0.out.trans HK2.out⟩
    clear HK2 HIN
    go_wp2_with fail
    go_ret
    exact ⟨_, rfl, HP⟩
  ·obtain rfl : i = n := by omega
   have hiI : ¬ (i : Int) < (i : Int) := by omega
   have HP : Hid (IxP d (-1) ∧ KF W wr) := ⟨.inr ⟨by rw [HD.out]; exact mem_none HN.out HI.out.2, rfl⟩, HK0.out.trans HI.out.1⟩
   clear HI
   go_wp2_with fail
   go_ret
   exact ⟨_, rfl, HP⟩
theorem sindex_spec {W : World} {v : Value} {l : List Str} (h : ReadsS W v l) (hl : l.length ≤ 1000000) (s : Str) : Calls Tryz.prog 141 #[v, .string ⟨s.toArray⟩] W fun e W' => ∃ r : Int, e = .returned (.int .i64 r) ∧ Hid (IxP (decide (s ∈ l)) r) ∧ W = W' := by
 obtain ⟨ao, cap, rfl, hle, hr⟩ := h
 obtain ⟨n, hn⟩ : ∃ n, l.length = n := ⟨_, rfl⟩
 rw [hn] at hle hr hl ⊢
 have HR := Lib.hid hr
 have HN := Lib.hid hn
 obtain ⟨d, hd⟩ : ∃ d, decide (s ∈ l) = d := ⟨_, rfl⟩
 have HD : Hid (d = decide (s ∈ l)) := hd.symm
 rw [hd]
 clear hr hn hd
 go_enter Tryz.func141, Tryz.ntmps141
 go_wp2_with fail
 go_loopg [8] n (fun g t wx => ∃ i : Nat, i ≤ n ∧ g = n - i ∧ t = .int .i64 i ∧ Hid (∀ (j : Nat) (y : Str), j < i → l[j]? = some y → y ≠ s) ∧ wx = W)
 case atStart => exact ⟨0, Nat.zero_le _, rfl, rfl, fun j y hj _ => absurd hj (Nat.not_lt_zero _), rfl⟩
 case round =>
  obtain ⟨i, hi, rfl, rfl, HI, rfl⟩ := hrel
  by_cases hlt : i < n
  ·have hiI : (i : Int) < (n : Int) := by omega
   have hwi : IntKind.i64.wrap ((i : Int) + 1) = (i : Int) + 1 := IntWalk.i64_in _ (by omega)
   obtain ⟨y, hy⟩ : ∃ y, l[i]? = some y := ⟨_, List.getElem?_eq_getElem (by rw [HN.out]; exact hlt)⟩
   obtain ⟨g, off, rfl, hg, hcc⟩ := HR.out (by omega)
   have hicap : i < cap := by omega
   have HY := Lib.hid hy
   have q0 : wr.cell? ⟨g, off + i, none⟩ = some (.string ⟨y.toArray⟩) := hcc i y hy
   clear hcc hy
   by_cases e : y = s
   ·subst e
    have HP : Hid (IxP d (i : Int)) := .inl ⟨by rw [HD.out]; exact mem_at HY.out rfl, by omega, by omega⟩
    clear HI
    go_wp2_with fail
    go_ret
    exact ⟨_, rfl, HP, rfl⟩
   ·have he : (s == y) = false := beq_eq_false_iff_ne.2 (fun q => e q.symm)
    have HN2 : Hid (∀ (j : Nat) (z : Str), j < i + 1 → l[j]? = some z → z ≠ s) := ne_more HI.out HY.out e
    clear HI e
    go_wp2_with fail
    go_roundg (n - (i + 1))
    case measure => omega
    case rel => exact ⟨i + 1, by omega, rfl, by go_num, HN2, rfl⟩
  ·obtain rfl : i = n := by omega
   have hiI : ¬ (i : Int) < (i : Int) := by omega
   have HP : Hid (IxP d (-1)) := .inr ⟨by rw [HD.out]; exact mem_none HN.out HI.out, rfl⟩
   clear HI
   go_wp2_with fail
   go_ret
   exact ⟨_, rfl, HP, rfl⟩
theorem rcontains_spec {W : World} {v : Value} {l : List Rol} (h : RdK rolE W v l) (hl : l.length ≤ 1000000) (s : Rol) : Calls Tryz.prog 90 #[v, rolV2 s] W fun e W' => e = .returned (.bool (decide (s ∈ l))) ∧ Hid (KF W W') := by
 obtain ⟨d, hd⟩ : ∃ d, decide (s ∈ l) = d := ⟨_, rfl⟩
 obtain ⟨s1, s2⟩ := s
 obtain ⟨WA, hWA⟩ : ∃ WA, W.alloc (bR s1 s2) = WA := ⟨_, rfl⟩
 have hal := (MapKept.heap_alloc W (bR s1 s2)).1
 have hk : KF W WA := by rw [← hWA]; exact (Keeps.refl _ _).alloc _
 rw [hWA] at hal
 have HK0 := Lib.hid hk
 have HC := Lib.hid (rindex_spec (h.keeps hk) hl (s1, s2))
 obtain ⟨p0, f0, p1, f1⟩ := cf2 hal
 rw [hd] at HC ⊢
 clear hal hk hd h
 unfold rolV2 at HC ⊢
 go_enter Tryz.func90, Tryz.ntmps90
 go_upto_region 1 with fail
 clear hWA
 go_wp2_with fail
 refine HC.out.mono ?_
 rintro e w2 ⟨r, rfl, hr⟩
 have HE : Hid (KF W w2) := HK0.out.trans hr.out.2
 rcases hr.out.1 with ⟨rfl, h0, h1⟩ | ⟨rfl, rfl⟩
 ·clear HC hr
  go_wp2_with fail
  go_ret
  exact ⟨by first | rfl | (show Ending.returned (Value.bool (decide (0 ≤ r))) = _; rw [decide_eq_true h0]), HE⟩
 ·clear HC hr
  go_wp2_with fail
  go_ret
  exact ⟨rfl, HE⟩
theorem scontains_spec {W : World} {v : Value} {l : List Str} (h : ReadsS W v l) (hl : l.length ≤ 1000000) (s : Str) : Calls Tryz.prog 97 #[v, .string ⟨s.toArray⟩] W fun e W' => e = .returned (.bool (decide (s ∈ l))) ∧ Hid (W = W') := by
 obtain ⟨d, hd⟩ : ∃ d, decide (s ∈ l) = d := ⟨_, rfl⟩
 have HC := Lib.hid (sindex_spec h hl s)
 rw [hd] at HC ⊢
 clear hd h
 go_enter Tryz.func97, Tryz.ntmps97
 go_wp2_with fail
 refine HC.out.mono ?_
 rintro e w2 ⟨r, rfl, hr, hw⟩
 have HE : Hid (W = w2) := hw
 rcases hr.out with ⟨rfl, h0, h1⟩ | ⟨rfl, rfl⟩
 ·clear HC hr
  go_wp2_with fail
  go_ret
  exact ⟨by first | rfl | (show Ending.returned (Value.bool (decide (0 ≤ r))) = _; rw [decide_eq_true h0]), HE⟩
 ·clear HC hr
  go_wp2_with fail
  go_ret
  exact ⟨rfl, HE⟩
theorem phas_spec {W : World} {v : Value} {l : List Rol} (h : RdK rolE W v l) (hl : l.length ≤ 1000000) (s : Rol) : Calls Tryz.prog 76 #[v, rolV2 s] W fun e W' => e = .returned (.bool (decide (s ∈ l))) ∧ Hid (KF W W') := by
 obtain ⟨d, hd⟩ : ∃ d, decide (s ∈ l) = d := ⟨_, rfl⟩
 obtain ⟨s1, s2⟩ := s
 obtain ⟨WA, hWA⟩ : ∃ WA, W.alloc (bR s1 s2) = WA := ⟨_, rfl⟩
 have hal := (MapKept.heap_alloc W (bR s1 s2)).1
 have hk : KF W WA := by rw [← hWA]; exact (Keeps.refl _ _).alloc _
 rw [hWA] at hal
 have HK0 := Lib.hid hk
 have HC := Lib.hid (rcontains_spec (h.keeps hk) hl (s1, s2))
 obtain ⟨p0, f0, p1, f1⟩ := cf2 hal
 rw [hd] at HC ⊢
 clear hal hk hd h
 unfold rolV2 at HC ⊢
 go_enter Tryz.func76, Tryz.ntmps76
 go_upto_region 1 with fail
 clear hWA
 go_wp2_with fail
 refine HC.out.mono ?_
 rintro e w2 ⟨rfl, hr⟩
 have HE : Hid (KF W w2) := HK0.out.trans hr.out
 clear HC hr
 go_wp2_with fail
 go_ret
 exact ⟨rfl, HE⟩
end Go.Proofs.YtckikkkdabpjkaaGreat
/-
 A row in a block whose size is known: what an append to it wants.
-/
set_option linter.unusedVariables false
set_option linter.unusedSimpArgs false
namespace Go.Proofs.YtckikkkdabpjkaaGreat
open Go.ChangeShapes Go.WideShapes Go.ChangeAt Go.RowKit Go.Deep
/-- A block of so many cells of a type. -/
def Shp3 (T : TypeId) (w : World) (g m : Nat) : Prop := ∃ cur : Array Value, w.heap[g]? = some (.cells cur T (0, 0)) ∧ cur.size = m
theorem Shp3.keeps {T : TypeId} {w w' : World} {g m : Nat} (h : Shp3 T w g m) {S : Nat → Prop} (hk : Keeps S w w') (hs : ¬ S g) : Shp3 T w' g m := by
 obtain ⟨cur, h1, h2⟩ := h
 exact ⟨cur, (hk.block g (lt_of_heap h1) hs).trans h1, h2⟩
theorem Shp3.setCells {T : TypeId} {g m : Nat} : ∀ (vs : List Value) (o : Nat) {w : World}, Shp3 T w g m → Shp3 T (w.setCells g o vs) g m
 | [], _, _, h => h
 | v :: r, o, w, h => by
  rw [World.setCells]
  obtain ⟨cur, h1, h2⟩ := h
  exact Shp3.setCells r (o + 1) ⟨_, heap_set h1 o v, by rw [Array.size_setIfInBounds]; exact h2⟩
section
variable {α : Type} {E : Elt α}
variable (E) in
/-- A row that a block holds, of so many cells. -/
def HoS (w : World) (g m : Nat) (l : List α) : Prop := HoK E w g 0 l ∧ Shp3 E.T w g m
theorem HoS.keeps {w w' : World} {g m : Nat} {l : List α} (h : HoS E w g m l) {S : Nat → Prop} (hk : Keeps S w w') (hs : ¬ S g) : HoS E w' g m l := ⟨h.1.keeps hk hs, h.2.keeps hk hs⟩
theorem HoS.take {w : World} {g m : Nat} {l : List α} (h : HoS E w g m l) (n : Nat) : HoS E w g m (l.take n) := ⟨h.1.take n, h.2⟩
theorem HoS.put {w : World} {g m : Nat} {l : List α} (h : HoS E w g m l) {n : Nat} (hn : n < l.length) (y : α) : HoS E (w.setCells g (0 + n * E.k) (E.enc y)) g m (l.set n y) ∧ Keeps (fun q => q = g) w (w.setCells g (0 + n * E.k) (E.enc y)) :=
 ⟨⟨(h.1.put hn y).1, h.2.setCells _ _⟩, (h.1.put hn y).2⟩
theorem HoS.past {w : World} {g m : Nat} {l : List α} (h : HoS E w g m l) (n : Nat) (vs : List Value) : HoS E (w.setCells g (n * E.k) vs) g m (l.take n) ∧ Keeps (fun q => q = g) w (w.setCells g (n * E.k) vs) :=
 ⟨⟨(h.1.past n vs).1, h.2.setCells _ _⟩, (h.1.past n vs).2⟩
/-- It is a row of one's own. -/
theorem HoS.own {w : World} {g cap base : Nat} {l : List α} (h : HoS E w g (cap * E.k) l) (hb : base ≤ g) (hle : l.length ≤ cap) (hm : cap ≤ maxLen) : OwnK E base w (.slice (some ⟨g, 0, none⟩) l.length cap) l := by
 obtain ⟨cur, h1, h2⟩ := h.2
 refine ⟨flat_len E l, .inr ⟨g, cap, cur, rfl, hb, h1, hle, hm, h2, ?_⟩⟩
 have hmul := Nat.mul_le_mul_right E.k hle
 apply List.ext_getElem?
 intro t
 by_cases ht : t < l.length * E.k
 ·rw [List.getElem?_take_of_lt ht, Array.getElem?_toList]
  obtain ⟨u, hu⟩ : ∃ u, (flat E l)[t]? = some u := ⟨_, List.getElem?_eq_getElem (by rw [flat_len]; exact ht)⟩
  rw [hu]
  obtain ⟨j, i, x, hj, hi, e⟩ := flat_at E l t u hu
  have q := (h.1.2 j x hj i u hi).1
  rw [Nat.zero_add, cell_of_heap h1, ← e] at q
  exact q
 ·rw [List.getElem?_take_eq_none (by omega), List.getElem?_eq_none (by rw [flat_len]; omega)]
end
end Go.Proofs.YtckikkkdabpjkaaGreat
/-
 slices.IndexFunc and DeleteFunc of statements, by a closure that reads alone.
-/
set_option linter.unusedVariables false
set_option linter.unusedSimpArgs false
set_option linter.unnecessarySimpa false
namespace Go.Proofs.YtckikkkdabpjkaaGreat
open Go.ChangeShapes Go.WideShapes Go.ChangeAt Go.RowKit Go.Deep
/-- What the index of the first that goes says. -/
def IxD (l : List Stm) (del : Stm → Bool) (r : Int) : Prop := (r = -1 ∧ ∀ (j : Nat) (y : Stm), l[j]? = some y → del y = false) ∨ ∃ k : Nat, r = (k : Int) ∧ k < l.length ∧ (∀ (j : Nat) (y : Stm), j < k → l[j]? = some y → del y = false) ∧ ∀ y : Stm, l[k]? = some y → del y = true
theorem filter_all {l : List Stm} {del : Stm → Bool} (h : ∀ (j : Nat) (y : Stm), l[j]? = some y → del y = false) : l.filter (fun y => !del y) = l := List.filter_eq_self.2 fun y hy => by
 obtain ⟨j, hj⟩ := List.getElem?_of_mem hy
 rw [h j y hj]
 rfl
/-- Where the deletion stands: so many looked at, so many kept. -/
structure DI (l : List Stm) (del : Stm → Bool) (j i : Nat) (cur : List Stm) : Prop where
 len : cur.length = l.length
 le : i < j
 front : cur.take i = (l.take j).filter (fun y => !del y)
 rest : ∀ t, j ≤ t → cur[t]? = l[t]?
theorem DI.start {l : List Stm} {del : Stm → Bool} {k : Nat} (hk : k < l.length) (h1 : ∀ (j : Nat) (y : Stm), j < k → l[j]? = some y → del y = false) (h2 : ∀ y : Stm, l[k]? = some y → del y = true) : DI l del (k + 1) k l := by
 refine ⟨rfl, Nat.lt_succ_self _, ?_, fun t _ => rfl⟩
 have e : l.take (k + 1) = l.take k ++ [l[k]] := by rw [List.take_add_one, List.getElem?_eq_getElem hk]; rfl
 rw [e, List.filter_append, filter_all (fun j y hj => by
  have hjl := (List.getElem?_eq_some_iff.1 hj).1
  rw [List.length_take] at hjl
  rw [List.getElem?_take_of_lt (by omega)] at hj
  exact h1 j y (by omega) hj)]
 have := h2 l[k] (List.getElem?_eq_getElem hk)
 simp [this]
theorem take_next {l : List Stm} {j : Nat} {x : Stm} (hx : l[j]? = some x) (p : Stm → Bool) : (l.take (j + 1)).filter p = (l.take j).filter p ++ (if p x then [x] else []) := by
 rw [List.take_add_one, hx, List.filter_append]
 congr 1
 show List.filter p [x] = _
 by_cases h : p x = true
 ·simp [h]
 ·simp [h]
theorem DI.gone {l cur : List Stm} {del : Stm → Bool} {j i : Nat} {x : Stm} (q : DI l del j i cur) (hx : l[j]? = some x) (h : del x = true) : DI l del (j + 1) i cur := by
 refine ⟨q.len, Nat.lt_succ_of_lt q.le, ?_, fun t ht => q.rest t (by omega)⟩
 rw [take_next hx, q.front]
 simp [h]
theorem DI.kept {l cur : List Stm} {del : Stm → Bool} {j i : Nat} {x : Stm} (q : DI l del j i cur) (hx : l[j]? = some x) (h : del x = false) : DI l del (j + 1) (i + 1) (cur.set i x) := by
 have hjl := (List.getElem?_eq_some_iff.1 hx).1
 have hle := q.le
 have hln := q.len
 refine ⟨by rw [List.length_set]; exact q.len, by omega, ?_, fun t ht => ?_⟩
 ·rw [take_next hx, ← q.front, h, List.take_add_one, List.getElem?_set_self (by omega)]
  congr 1
  ·exact List.take_set_of_le (Nat.le_refl _)
 ·rw [List.getElem?_set_ne (by omega)]
  exact q.rest t (by omega)
set_option maxRecDepth 100000
set_option maxHeartbeats 6400000
theorem mindexF_spec {W : World} {g cap cb fn : Nat} {l : List Stm} {del : Stm → Bool} (h : HoK stmE W g 0 l) (hle : l.length ≤ cap) (hl : l.length ≤ 10000) (hEn : ∀ (zs : Array Value) (w : World), (callFunc fn zs).run Tryz.prog w = .ok (.enter fn zs) w) (hF : ∀ (y : Stm) (w : World), Keeps (fun q => q = g) W w → Calls Tryz.prog fn #[stmV y, .pointer (some ⟨cb, 0, none⟩)] w fun e w' => e = .returned (.bool (del y)) ∧ Hid (KF w w')) :
 Calls Tryz.prog 122 #[.slice (some ⟨g, 0, none⟩) l.length cap, .func (.func fn) #[] #[.pointer (some ⟨cb, 0, none⟩)]] W fun e W' => ∃ r : Int, e = .returned (.int .i64 r) ∧ Hid (IxD l del r ∧ KF W W') := by
 have HH := Lib.hid h
 have HF := Lib.hid hF
 have HEN := Lib.hid hEn
 obtain ⟨n, hn⟩ : ∃ n, l.length = n := ⟨_, rfl⟩
 rw [hn] at hle hl ⊢
 have HN := Lib.hid hn
 clear h hF hn hEn
 go_enter Tryz.func122, Tryz.ntmps122
 go_wp2_with fail
 go_loopg [8] n (fun g t wx => ∃ i : Nat, i ≤ n ∧ g = n - i ∧ t = .int .i64 i ∧ Hid (KF W wx ∧ ∀ (j : Nat) (y : Stm), j < i → l[j]? = some y → del y = false))
 case atStart => exact ⟨0, Nat.zero_le _, rfl, rfl, Keeps.refl _ _, fun j y hj _ => absurd hj (Nat.not_lt_zero _)⟩
 case round =>
  obtain ⟨i, hi, rfl, rfl, HI⟩ := hrel
  by_cases hlt : i < n
  ·have hiI : (i : Int) < (n : Int) := by omega
   have hwi : IntKind.i64.wrap ((i : Int) + 1) = (i : Int) + 1 := IntWalk.i64_in _ (by omega)
   obtain ⟨x, hx⟩ : ∃ y, l[i]? = some y := ⟨_, List.getElem?_eq_getElem (by rw [HN.out]; exact hlt)⟩
   have hicap : i < cap := by omega
   have hcx := fun q u hu => (HH.out.2 i x hx q u hu).1
   have ex : 0 + i * stmE.k = i * 9 := by show 0 + i * 9 = _; omega
   rw [ex] at hcx
   have HY := Lib.hid hx
   have HC := Lib.hid (HF.out x wr (HI.out.1.mono (fun _ _ z => z.elim)))
   obtain ⟨d, hd⟩ : ∃ d, del x = d := ⟨_, rfl⟩
   rw [hd] at HC
   have HDD := Lib.hid hd
   obtain ⟨⟨xh1, xh2⟩, xk, xo, ⟨xa1, xa2⟩, ⟨xb1, xb2⟩, xi⟩ := x
   unfold stmV at HC
   simp only at HC
   have c0 : wr.cell? ⟨g, i * 9, none⟩ = some (.int .i64 xk) := (HI.out.1.cell (p := ⟨g, i * 9 + 0, none⟩) (World.block_lt_of_cell? _ ⟨g, i * 9 + 0, none⟩ (hcx 0 _ rfl)) (fun x => x)).trans (hcx 0 _ rfl)
   have c1 : wr.cell? ⟨g, i * 9 + 1, none⟩ = some (.string ⟨xh1.toArray⟩) := (HI.out.1.cell (p := ⟨g, i * 9 + 1, none⟩) (World.block_lt_of_cell? _ ⟨g, i * 9 + 1, none⟩ (hcx 1 _ rfl)) (fun x => x)).trans (hcx 1 _ rfl)
   have c2 : wr.cell? ⟨g, i * 9 + 2, none⟩ = some (.string ⟨xh2.toArray⟩) := (HI.out.1.cell (p := ⟨g, i * 9 + 2, none⟩) (World.block_lt_of_cell? _ ⟨g, i * 9 + 2, none⟩ (hcx 2 _ rfl)) (fun x => x)).trans (hcx 2 _ rfl)
   have c3 : wr.cell? ⟨g, i * 9 + 3, none⟩ = some (.string ⟨xo.toArray⟩) := (HI.out.1.cell (p := ⟨g, i * 9 + 3, none⟩) (World.block_lt_of_cell? _ ⟨g, i * 9 + 3, none⟩ (hcx 3 _ rfl)) (fun x => x)).trans (hcx 3 _ rfl)
   have c4 : wr.cell? ⟨g, i * 9 + 4, none⟩ = some (.string ⟨xa1.toArray⟩) := (HI.out.1.cell (p := ⟨g, i * 9 + 4, none⟩) (World.block_lt_of_cell? _ ⟨g, i * 9 + 4, none⟩ (hcx 4 _ rfl)) (fun x => x)).trans (hcx 4 _ rfl)
   have c5 : wr.cell? ⟨g, i * 9 + 5, none⟩ = some (.string ⟨xa2.toArray⟩) := (HI.out.1.cell (p := ⟨g, i * 9 + 5, none⟩) (World.block_lt_of_cell? _ ⟨g, i * 9 + 5, none⟩ (hcx 5 _ rfl)) (fun x => x)).trans (hcx 5 _ rfl)
   have c6 : wr.cell? ⟨g, i * 9 + 6, none⟩ = some (.string ⟨xb1.toArray⟩) := (HI.out.1.cell (p := ⟨g, i * 9 + 6, none⟩) (World.block_lt_of_cell? _ ⟨g, i * 9 + 6, none⟩ (hcx 6 _ rfl)) (fun x => x)).trans (hcx 6 _ rfl)
   have c7 : wr.cell? ⟨g, i * 9 + 7, none⟩ = some (.string ⟨xb2.toArray⟩) := (HI.out.1.cell (p := ⟨g, i * 9 + 7, none⟩) (World.block_lt_of_cell? _ ⟨g, i * 9 + 7, none⟩ (hcx 7 _ rfl)) (fun x => x)).trans (hcx 7 _ rfl)
   have c8 : wr.cell? ⟨g, i * 9 + 8, none⟩ = some (.string ⟨xi.toArray⟩) := (HI.out.1.cell (p := ⟨g, i * 9 + 8, none⟩) (World.block_lt_of_cell? _ ⟨g, i * 9 + 8, none⟩ (hcx 8 _ rfl)) (fun x => x)).trans (hcx 8 _ rfl)
   clear hcx ex hx hd
   go_wp2_with fail
   rw [HEN.out, Oper.upon_enter]
   refine HC.out.mono ?_
   rintro e w2 ⟨rfl, hk⟩
   have HK2 : Hid (KF W w2) := HI.out.1.trans hk.out
   have HIO := Lib.hid HI.out.2
   clear HC hk HI c0 c1 c2 c3 c4 c5 c6 c7 c8
   cases d
   ·have HN2 : Hid (KF W w2 ∧ ∀ (j : Nat) (y : Stm), j < i + 1 → l[j]? = some y → del y = false) := ⟨HK2.out, fun j z hj hz => by
     rcases Nat.lt_or_ge j i with k | k
     ·exact HIO.out j z k hz
     ·obtain rfl : j = i := by omega
      have h := HY.out
      rw [hz] at h
      rw [Option.some.inj h]
      exact HDD.out⟩
    clear HK2 HIO
    go_wp2_with fail
    go_roundg (n - (i + 1))
    case measure => omega
    case rel => exact ⟨i + 1, by omega, rfl, by go_num, HN2⟩
   ·have HP : Hid (IxD l del (i : Int) ∧ KF W w2) := ⟨.inr ⟨i, rfl, by rw [HN.out]; exact hlt, HIO.out, fun y hy => by
     have h := HY.out
     rw [hy] at h
     rw [Option.some.inj h]
     exact HDD.out⟩, HK2.out⟩
    clear HK2 HIO
    go_wp2_with fail
    go_ret
    exact ⟨_, rfl, HP⟩
  ·obtain rfl : i = n := by omega
   have hiI : ¬ (i : Int) < (i : Int) := by omega
   have HP : Hid (IxD l del (-1) ∧ KF W wr) := ⟨.inl ⟨rfl, fun j y hj => HI.out.2 j y (by have := (List.getElem?_eq_some_iff.1 hj).1; have := HN.out; omega) hj⟩, HI.out.1⟩
   clear HI
   go_wp2_with fail
   go_ret
   exact ⟨_, rfl, HP⟩
theorem mindexF_none (W : World) (cb fn : Nat) : Calls Tryz.prog 122 #[.slice none 0 0, .func (.func fn) #[] #[.pointer (some ⟨cb, 0, none⟩)]] W fun e W' => e = .returned (.int .i64 (-1)) ∧ W = W' := by
 go_enter Tryz.func122, Tryz.ntmps122
 go_wp2_with fail
 go_loopg [8] 0 (fun g t wx => g = 0 ∧ t = .int .i64 0 ∧ wx = W)
 case atStart => exact ⟨rfl, rfl, rfl⟩
 case round =>
  obtain ⟨rfl, rfl, rfl⟩ := hrel
  go_wp2_with fail
  go_ret
  exact ⟨rfl, rfl⟩
theorem mdel_none (W : World) (cb fn : Nat) : Calls Tryz.prog 70 #[.slice none 0 0, .func (.func fn) #[] #[.pointer (some ⟨cb, 0, none⟩)]] W fun e W' => e = .returned (.slice none 0 0) ∧ W = W' := by
 have HC := Lib.hid (mindexF_none W cb fn)
 go_enter Tryz.func70, Tryz.ntmps70
 go_wp2_with fail
 refine HC.out.mono ?_
 rintro e w2 ⟨rfl, rfl⟩
 clear HC
 go_wp2_with fail
 go_ret
 exact ⟨rfl, rfl⟩
theorem mdel_spec {W : World} {g cap cb fn : Nat} {l : List Stm} {del : Stm → Bool} (h : HoK stmE W g 0 l) (hle : l.length ≤ cap) (hl : l.length ≤ 10000) (hEn : ∀ (zs : Array Value) (w : World), (callFunc fn zs).run Tryz.prog w = .ok (.enter fn zs) w) (hF : ∀ (y : Stm) (w : World), Keeps (fun q => q = g) W w → Calls Tryz.prog fn #[stmV y, .pointer (some ⟨cb, 0, none⟩)] w fun e w' => e = .returned (.bool (del y)) ∧ Hid (KF w w')) :
 Calls Tryz.prog 70 #[.slice (some ⟨g, 0, none⟩) l.length cap, .func (.func fn) #[] #[.pointer (some ⟨cb, 0, none⟩)]] W fun e W' => ∃ i : Nat, e = .returned (.slice (some ⟨g, 0, none⟩) i cap) ∧ Hid ((i = (l.filter (fun y => !del y)).length ∧ i ≤ l.length ∧ HoK stmE W' g 0 (l.filter (fun y => !del y))) ∧ Keeps (fun q => q = g) W W') := by
 have HX := Lib.hid (mindexF_spec h hle hl hEn hF)
 have HH := Lib.hid h
 have HF := Lib.hid hF
 have HEN := Lib.hid hEn
 obtain ⟨n, hn⟩ : ∃ n, l.length = n := ⟨_, rfl⟩
 rw [hn] at hle hl HX ⊢
 have HN := Lib.hid hn
 clear h hF hn hEn
 go_enter Tryz.func70, Tryz.ntmps70
 go_wp2_with fail
 refine HX.out.mono ?_
 rintro e w1 ⟨r, rfl, hr⟩
 have HK1 : Hid (Keeps (fun q => q = g) W w1) := hr.out.2.mono (fun _ _ z => z.elim)
 have HH1 : Hid (HoK stmE w1 g 0 l) := HH.out.keeps hr.out.2 (fun z => z)
 clear HX
 rcases hr.out.1 with ⟨rfl, hall⟩ | ⟨k, rfl, hk, ha, hb⟩
 ·have HP : Hid ((n = (l.filter (fun y => !del y)).length ∧ n ≤ n ∧ HoK stmE w1 g 0 (l.filter (fun y => !del y))) ∧ Keeps (fun q => q = g) W w1) := by
   rw [filter_all hall]
   exact ⟨⟨HN.out.symm, Nat.le_refl _, HH1.out⟩, HK1.out⟩
  clear hr hall HH1 HK1
  go_wp2_with fail
  go_ret
  exact ⟨_, rfl, HP⟩
 ·have HDI := Lib.hid (DI.start hk ha hb)
  have hkn : k < n := by rw [← HN.out]; exact hk
  have hkm : ¬ (k : Int) = -1 := by omega
  have hkmb : ((k : Int) == -1) = false := beq_eq_false_iff_ne.2 hkm
  have hwk : IntKind.i64.wrap ((k : Int) + 1) = ((k + 1 : Nat) : Int) := (IntWalk.i64_in _ (by omega)).trans (by omega)
  clear hr ha hb hk
  go_wp2_with fail
  go_loopg [5, 6] (n - (k + 1)) (fun gg t5 t6 wx => ∃ (i j : Nat) (cur : List Stm), j ≤ n ∧ gg = n - j ∧ t5 = .int .i64 i ∧ t6 = .int .i64 j ∧ Hid (DI l del j i cur ∧ HoK stmE wx g 0 cur ∧ Keeps (fun q => q = g) W wx))
  case atStart => exact ⟨k, k + 1, l, by omega, rfl, rfl, by first | rfl | go_num, HDI.out, HH1.out, HK1.out⟩
  case round =>
   clear HDI HH1 HK1
   obtain ⟨i, j, cur, hj, rfl, rfl, rfl, HI⟩ := hrel
   have hij := HI.out.1.le
   by_cases hlt : j < n
   ·have hjI : (j : Int) < (n : Int) := by omega
    have hwj : IntKind.i64.wrap ((j : Int) + 1) = (j : Int) + 1 := IntWalk.i64_in _ (by omega)
    have hwi : IntKind.i64.wrap ((i : Int) + 1) = (i : Int) + 1 := IntWalk.i64_in _ (by omega)
    have hjcap : j < cap := by omega
    have hicap : i < cap := by omega
    have hinI : (i : Int) < (n : Int) := by omega
    obtain ⟨x, hx⟩ : ∃ y, l[j]? = some y := ⟨_, List.getElem?_eq_getElem (by rw [HN.out]; exact hlt)⟩
    have hx2 : cur[j]? = some x := by rw [HI.out.1.rest j (Nat.le_refl _)]; exact hx
    obtain ⟨z, hz⟩ : ∃ z, cur[i]? = some z := ⟨_, List.getElem?_eq_getElem (by rw [HI.out.1.len, HN.out]; omega)⟩
    have hcx := fun q u hu => (HI.out.2.1.2 j x hx2 q u hu).1
    have ex : 0 + j * stmE.k = j * 9 := by show 0 + j * 9 = _; omega
    rw [ex] at hcx
    have HY := Lib.hid hx
    have HZ := Lib.hid hz
    have HCF := Lib.hid (HF.out x)
    obtain ⟨d, hd⟩ : ∃ d, del x = d := ⟨_, rfl⟩
    rw [hd] at HCF
    have HDD := Lib.hid hd
    obtain ⟨⟨xh1, xh2⟩, xk, xo, ⟨xa1, xa2⟩, ⟨xb1, xb2⟩, xi⟩ := x
    unfold stmV at HCF
    simp only at HCF
    have c0 : wr.cell? ⟨g, j * 9, none⟩ = some (.int .i64 xk) := hcx 0 _ rfl
    have c1 : wr.cell? ⟨g, j * 9 + 1, none⟩ = some (.string ⟨xh1.toArray⟩) := hcx 1 _ rfl
    have c2 : wr.cell? ⟨g, j * 9 + 2, none⟩ = some (.string ⟨xh2.toArray⟩) := hcx 2 _ rfl
    have c3 : wr.cell? ⟨g, j * 9 + 3, none⟩ = some (.string ⟨xo.toArray⟩) := hcx 3 _ rfl
    have c4 : wr.cell? ⟨g, j * 9 + 4, none⟩ = some (.string ⟨xa1.toArray⟩) := hcx 4 _ rfl
    have c5 : wr.cell? ⟨g, j * 9 + 5, none⟩ = some (.string ⟨xa2.toArray⟩) := hcx 5 _ rfl
    have c6 : wr.cell? ⟨g, j * 9 + 6, none⟩ = some (.string ⟨xb1.toArray⟩) := hcx 6 _ rfl
    have c7 : wr.cell? ⟨g, j * 9 + 7, none⟩ = some (.string ⟨xb2.toArray⟩) := hcx 7 _ rfl
    have c8 : wr.cell? ⟨g, j * 9 + 8, none⟩ = some (.string ⟨xi.toArray⟩) := hcx 8 _ rfl
    have hal := (MapKept.heap_alloc wr (bM xk xh1 xh2 xo xa1 xa2 xb1 xb2 xi)).1
    have hka : KF wr (wr.alloc (bM xk xh1 xh2 xo xa1 xa2 xb1 xb2 xi)) := (Keeps.refl _ _).alloc _
    obtain ⟨b, hb⟩ : ∃ b, wr.heap.size = b := ⟨_, rfl⟩
    rw [hb] at hal
    have hgb : g < b := by have := HI.out.2.1.1; omega
    have HB := Lib.hid hal
    have HI2 : Hid (HoK stmE (wr.alloc (bM xk xh1 xh2 xo xa1 xa2 xb1 xb2 xi)) g 0 cur ∧ Keeps (fun q => q = g) W (wr.alloc (bM xk xh1 xh2 xo xa1 xa2 xb1 xb2 xi))) := ⟨HI.out.2.1.keeps hka (fun z => z), HI.out.2.2.trans (hka.mono (fun _ _ z => z.elim))⟩
    have HDI := Lib.hid HI.out.1
    go_upto_region 8 with fail
    clear hal hka hb HI hcx ex hx hx2 hz hd c0 c1 c2 c3 c4 c5 c6 c7 c8
    generalize wr.alloc (bM xk xh1 xh2 xo xa1 xa2 xb1 xb2 xi) = w2 at *
    obtain ⟨p0, f0, p1, f1, p2, f2, p3, f3, p4, f4, p5, f5, p6, f6, p7, f7, p8, f8⟩ := cf9 HB.out
    go_wp2_with fail
    rw [HEN.out, Oper.upon_enter]
    refine (HCF.out _ HI2.out.2).mono ?_
    rintro e w3 ⟨rfl, hk⟩
    have HB3 := Lib.hid ((hk.out.block _ (lt_of_heap HB.out) (fun x => x)).trans HB.out)
    have HI3 : Hid (HoK stmE w3 g 0 cur ∧ Keeps (fun q => q = g) W w3) := ⟨HI2.out.1.keeps hk.out (fun z => z), HI2.out.2.trans (hk.out.mono (fun _ _ z => z.elim))⟩
    clear HCF hk HB HI2 p0 f0 p1 f1 p2 f2 p3 f3 p4 f4 p5 f5 p6 f6 p7 f7 p8 f8
    cases d
    ·have HPW : Hid (HoK stmE (w3.setCells g (i * 9) (stmEnc ((xh1, xh2), xk, xo, (xa1, xa2), (xb1, xb2), xi))) g 0 (cur.set i ((xh1, xh2), xk, xo, (xa1, xa2), (xb1, xb2), xi)) ∧ Keeps (fun q => q = g) W (w3.setCells g (i * 9) (stmEnc ((xh1, xh2), xk, xo, (xa1, xa2), (xb1, xb2), xi)))) := by
      have q := HI3.out.1.put (n := i) (by rw [HDI.out.len, HN.out]; omega) ((xh1, xh2), xk, xo, (xa1, xa2), (xb1, xb2), xi)
      rw [show 0 + i * stmE.k = i * 9 by show 0 + i * 9 = _; omega] at q
      exact ⟨q.1, HI3.out.2.trans q.2⟩
     have HDN := Lib.hid (HDI.out.kept HY.out HDD.out)
     have hcz := fun q u hu => HI3.out.1.2 i z HZ.out q u hu
     rw [show 0 + i * stmE.k = i * 9 by show 0 + i * 9 = _; omega] at hcz
     obtain ⟨⟨zh1, zh2⟩, zk, zo, ⟨za1, za2⟩, ⟨zb1, zb2⟩, zi⟩ := z
     obtain ⟨r0, v0⟩ : w3.cell? ⟨g, i * 9, none⟩ = some (.int .i64 zk) ∧ w3.frozen? ⟨g, i * 9, none⟩ = false := hcz 0 _ rfl
     obtain ⟨r1, v1⟩ : w3.cell? ⟨g, i * 9 + 1, none⟩ = some (.string ⟨zh1.toArray⟩) ∧ w3.frozen? ⟨g, i * 9 + 1, none⟩ = false := hcz 1 _ rfl
     obtain ⟨r2, v2⟩ : w3.cell? ⟨g, i * 9 + 2, none⟩ = some (.string ⟨zh2.toArray⟩) ∧ w3.frozen? ⟨g, i * 9 + 2, none⟩ = false := hcz 2 _ rfl
     obtain ⟨r3, v3⟩ : w3.cell? ⟨g, i * 9 + 3, none⟩ = some (.string ⟨zo.toArray⟩) ∧ w3.frozen? ⟨g, i * 9 + 3, none⟩ = false := hcz 3 _ rfl
     obtain ⟨r4, v4⟩ : w3.cell? ⟨g, i * 9 + 4, none⟩ = some (.string ⟨za1.toArray⟩) ∧ w3.frozen? ⟨g, i * 9 + 4, none⟩ = false := hcz 4 _ rfl
     obtain ⟨r5, v5⟩ : w3.cell? ⟨g, i * 9 + 5, none⟩ = some (.string ⟨za2.toArray⟩) ∧ w3.frozen? ⟨g, i * 9 + 5, none⟩ = false := hcz 5 _ rfl
     obtain ⟨r6, v6⟩ : w3.cell? ⟨g, i * 9 + 6, none⟩ = some (.string ⟨zb1.toArray⟩) ∧ w3.frozen? ⟨g, i * 9 + 6, none⟩ = false := hcz 6 _ rfl
     obtain ⟨r7, v7⟩ : w3.cell? ⟨g, i * 9 + 7, none⟩ = some (.string ⟨zb2.toArray⟩) ∧ w3.frozen? ⟨g, i * 9 + 7, none⟩ = false := hcz 7 _ rfl
     obtain ⟨r8, v8⟩ : w3.cell? ⟨g, i * 9 + 8, none⟩ = some (.string ⟨zi.toArray⟩) ∧ w3.frozen? ⟨g, i * 9 + 8, none⟩ = false := hcz 8 _ rfl
     obtain ⟨p0, f0, p1, f1, p2, f2, p3, f3, p4, f4, p5, f5, p6, f6, p7, f7, p8, f8⟩ := cf9 HB3.out
     clear hcz HI3 HDI HB3
     go_wp2_with fail
     go_roundg (n - (j + 1))
     case measure => omega
     case rel => exact ⟨i + 1, j + 1, _, by omega, rfl, by first | rfl | go_num, by first | rfl | go_num, HDN.out, HPW.out⟩
    ·have HDN := Lib.hid (HDI.out.gone HY.out HDD.out)
     clear HDI HB3
     go_wp2_with fail
     go_roundg (n - (j + 1))
     case measure => omega
     case rel => exact ⟨i, j + 1, cur, by omega, rfl, rfl, by first | rfl | go_num, HDN.out, HI3.out⟩
   ·obtain rfl : j = n := by omega
    have hjI : ¬ (j : Int) < (j : Int) := by omega
    have hll := HI.out.1.len
    have hinI : (i : Int) ≤ (j : Int) := by omega
    have hicap : i ≤ cap := by omega
    have hni : ¬ (cap = i) := by omega
    have hcl : ∀ (ty : TypeId) (c' : Nat), (Builtin.clear_ #[22] ty #[.slice (some ⟨g, i * 9, none⟩) (j - i) c']).run Tryz.prog wr = .ok (.tuple #[]) (wr.setCells g (i * 9) (stmZero (j - i))) := fun ty c' => by
     have q := stm_clear HI.out.2.1 (n := i) (by rw [hll, HN.out]; omega) ty c'
     rw [hll, HN.out] at q
     exact q
    have HE : Hid ((i = (l.filter (fun y => !del y)).length ∧ i ≤ j ∧ HoK stmE (wr.setCells g (i * 9) (stmZero (j - i))) g 0 (l.filter (fun y => !del y))) ∧ Keeps (fun q => q = g) W (wr.setCells g (i * 9) (stmZero (j - i)))) := by
     have q := HI.out.2.1.past i (stmZero (j - i))
     have hf := HI.out.1.front
     rw [List.take_of_length_le (l := l) (by rw [HN.out]; exact Nat.le_refl _)] at hf
     rw [← hf]
     exact ⟨⟨by rw [List.length_take]; have := HN.out; omega, by omega, q.1⟩, HI.out.2.2.trans q.2⟩
    clear HI hll
    go_wp2_with (simp only [hcl])
    go_ret
    exact ⟨_, rfl, HE⟩
end Go.Proofs.YtckikkkdabpjkaaGreat
