/-
 Rows that may be and stand in order; the program's sorted.
-/
import Derived.Test.YtckikkkdabpjkaaGreatKitSq
import Derived.Test.YtckikkkdabpjkaaGreatMP
import Derived.Test.YtckikkkdabpjkaaGreatME
set_option linter.unusedVariables false
set_option linter.unusedSimpArgs false
set_option linter.unnecessarySimpa false
namespace Go.Proofs.YtckikkkdabpjkaaGreat
open Go.ChangeShapes Go.WideShapes Go.ChangeAt Go.RowKit Go.Deep
section
variable {α : Type} {lt : α → α → Prop} [DecidableRel lt] [DecidableEq α] {p : α → Bool} {l : List α}
/-- Each may be, and all stand in order. -/
def rowOk (p : α → Bool) (lt : α → α → Prop) [DecidableRel lt] (l : List α) : Bool := l.all p && decide (l = sortO lt l)
/-- The first so many may be, and stand in order. -/
def POk (p : α → Bool) (lt : α → α → Prop) (l : List α) (i : Nat) : Prop := (∀ (j : Nat) (y : α), j < i → l[j]? = some y → p y = true) ∧ ∀ (m : Nat) (x y : α), m + 1 < i → l[m]? = some x → l[m + 1]? = some y → lt x y
theorem rowOk_no {i : Nat} {y : α} (hy : l[i]? = some y) (h : p y = false) : rowOk p lt l = false := by
 have : l.all p = false := by
  rw [Bool.eq_false_iff]
  intro q
  have := List.all_eq_true.1 q y (List.mem_of_getElem? hy)
  rw [h] at this
  cases this
 unfold rowOk
 rw [this]
 rfl
theorem rowOk_not (o : LO lt) {m : Nat} {x y : α} (hx : l[m]? = some x) (hy : l[m + 1]? = some y) (h : ¬ lt x y) : rowOk p lt l = false := by
 unfold rowOk
 obtain ⟨h1, e1⟩ := List.getElem?_eq_some_iff.1 hx
 obtain ⟨h2, e2⟩ := List.getElem?_eq_some_iff.1 hy
 rw [decide_eq_false (fun e => h (by have := (sorted_adj o l).1 e m h2; rw [e1, e2] at this; exact this)), Bool.and_false]
theorem rowOk_yes (o : LO lt) (h : POk p lt l l.length) : rowOk p lt l = true := by
 unfold rowOk
 rw [List.all_eq_true.2 (fun y hy => by obtain ⟨i, hi⟩ := List.getElem?_of_mem hy; exact h.1 i y (List.getElem?_eq_some_iff.1 hi).1 hi), Bool.true_and]
 exact decide_eq_true ((sorted_adj o l).2 (fun i hi => h.2 i _ _ hi (List.getElem?_eq_getElem (by omega)) (List.getElem?_eq_getElem hi)))
end
section
variable {α : Type} {lt : α → α → Prop} {p : α → Bool} {l : List α}
theorem POk.zero : POk p lt l 0 := ⟨fun j y hj _ => absurd hj (Nat.not_lt_zero _), fun m x y hm _ _ => absurd hm (Nat.not_lt_zero _)⟩
theorem POk.first {y : α} (hy : l[0]? = some y) (h : p y = true) : POk p lt l 1 := ⟨fun j z hj hz => by
 obtain rfl : j = 0 := by omega
 rw [hy] at hz
 rw [← Option.some.inj hz]
 exact h, fun m x y hm _ _ => by omega⟩
theorem POk.next {m : Nat} {x y : α} (q : POk p lt l (m + 1)) (hx : l[m]? = some x) (hy : l[m + 1]? = some y) (h : p y = true) (hl : lt x y) : POk p lt l (m + 1 + 1) := ⟨fun j z hj hz => by
 rcases Nat.lt_or_ge j (m + 1) with k | k
 ·exact q.1 j z k hz
 ·obtain rfl : j = m + 1 := by omega
  rw [hy] at hz
  rw [← Option.some.inj hz]
  exact h, fun n u v hn hu hv => by
 rcases Nat.lt_or_ge (n + 1) (m + 1) with k | k
 ·exact q.2 n u v k hu hv
 ·obtain rfl : n = m := by omega
  rw [hx] at hu
  rw [hy] at hv
  rw [← Option.some.inj hu, ← Option.some.inj hv]
  exact hl⟩
end
set_option maxRecDepth 100000
set_option maxHeartbeats 3200000
theorem sorted_spec {W : World} {v : Value} {l : List Rol} (h : RdK rolE W v l) (hl : l.length ≤ 1000000) : Calls Tryz.prog 161 #[v] W fun e W' => e = .returned (.bool (rowOk roleB rolLt l)) ∧ Hid (KF W W') := by
 obtain ⟨ao, cap, rfl, hle, hr⟩ := h
 obtain ⟨n, hn⟩ : ∃ n, l.length = n := ⟨_, rfl⟩
 rw [hn] at hle hr hl ⊢
 have HR : Hid (0 < n → ∃ g off, ao = some ⟨g, off, none⟩ ∧ g < W.heap.size ∧ ∀ (j : Nat) (x : Rol), l[j]? = some x → ∀ (i : Nat) (u : Value), (rolE.enc x)[i]? = some u → W.cell? ⟨g, off + j * 2 + i, none⟩ = some u) := hr
 have HN := Lib.hid hn
 obtain ⟨R, hR⟩ : ∃ R, rowOk roleB rolLt l = R := ⟨_, rfl⟩
 have HD : Hid (R = rowOk roleB rolLt l) := hR.symm
 rw [hR]
 clear hr hn hR
 go_enter Tryz.func161, Tryz.ntmps161
 go_wp2_with fail
 go_loopg [7] n (fun g t wx => ∃ i : Nat, i ≤ n ∧ g = n - i ∧ t = .int .i64 i ∧ Hid (KF W wx ∧ POk roleB rolLt l i))
 case atStart => exact ⟨0, Nat.zero_le _, rfl, rfl, Keeps.refl _ _, POk.zero⟩
 case round =>
  obtain ⟨i, hi, rfl, rfl, HI⟩ := hrel
  by_cases hlt : i < n
  ·skip
   have hiI : (i : Int) < (n : Int) := by omega
   have hwi : IntKind.i64.wrap ((i : Int) + 1) = (i : Int) + 1 := IntWalk.i64_in _ (by omega)
   obtain ⟨y, hy⟩ : ∃ y, l[i]? = some y := ⟨_, List.getElem?_eq_getElem (by rw [HN.out]; exact hlt)⟩
   obtain ⟨g, off, rfl, hg, hcc⟩ := HR.out (by omega)
   have hicap : i < cap := by omega
   have HCC : Hid (∀ (j : Nat) (x : _), l[j]? = some x → ∀ (t : Nat) (u : Value), (rolE.enc x)[t]? = some u → wr.cell? ⟨g, off + j * 2 + t, none⟩ = some u) := fun j x hj t u hu => (HI.out.1.cell (p := ⟨g, off + j * 2 + t, none⟩) hg (fun x => x)).trans (hcc j x hj t u hu)
   have HY := Lib.hid hy
   obtain ⟨yr1, yr2⟩ := y
   clear hcc hy
   have c0 : wr.cell? ⟨g, off + i * 2, none⟩ = some (.string ⟨yr1.toArray⟩) := HCC.out i _ HY.out 0 _ rfl
   have c1 : wr.cell? ⟨g, off + i * 2 + 1, none⟩ = some (.string ⟨yr2.toArray⟩) := HCC.out i _ HY.out 1 _ rfl
   have hal := (MapKept.heap_alloc wr (bR yr1 yr2)).1
   have hka : KF wr (wr.alloc (bR yr1 yr2)) := (Keeps.refl _ _).alloc _
   obtain ⟨b, hb⟩ : ∃ b, wr.heap.size = b := ⟨_, rfl⟩
   rw [hb] at hal
   have HB := Lib.hid hal
   have HO : Hid (KF W (wr.alloc (bR yr1 yr2))) := HI.out.1.trans hka
   obtain ⟨q, hq⟩ : ∃ q, roleB (yr1, yr2) = q := ⟨_, rfl⟩
   have HP : Hid (∀ w, Calls Tryz.prog 154 #[.agg #[.string ⟨yr1.toArray⟩, .string ⟨yr2.toArray⟩]] w fun e W' => e = .returned (.bool q) ∧ Hid (KF w W')) := fun w => by rw [← hq]; exact sisrole_all (yr1, yr2)
   have HQ := Lib.hid hq
   have HIO := Lib.hid HI.out.2
   clear hq
   go_upto_region 4 with fail
   clear hal c0 c1
   cases q
   case false =>
    clear HCC
    clear HI hka hb
    generalize wr.alloc (bR yr1 yr2) = w1 at *
    obtain ⟨p0, f0, p1, f1⟩ := cf2 HB.out
    clear f0 f1
    have HMK1 : Hid (∀ w' : World, KF w1 w' → w'.cell? ⟨b, 0, none⟩ = some (.string ⟨yr1.toArray⟩) ∧ w'.cell? ⟨b, 1, none⟩ = some (.string ⟨yr2.toArray⟩)) := fun w' hk => ⟨kc hk p0, kc hk p1⟩
    have HKX1 : Hid (KF w1 w1.drew) := (Keeps.refl _ _).drew
    have hS0 := HMK1.out _ HKX1.out
    clear p0 p1
    refine wp_region_noPanic ?_
    refine wp_region_held_drew (S := (fun w' => w'.cell? ⟨b, 0, none⟩ = some (.string ⟨yr1.toArray⟩) ∧ w'.cell? ⟨b, 1, none⟩ = some (.string ⟨yr2.toArray⟩))) (by kernel_rfl) hS0 (fun hHeld => ?_)
    clear hS0
    generalize w1.drew = w2 at *
    refine tk 0 rfl hHeld ?_
    (try simp only [nz])
    refine on1 1 rfl fun KK hK => ?_
    go_simp
    refine (HP.out _).mono ?_
    rintro e w3 ⟨rfl, hk⟩
    replace HKX1 := Lib.hid (HKX1.out.trans hk.out)
    clear hk HP
    go_simp
    refine hK.out _ _ (HMK1.out _ HKX1.out) fun hHeld => ?_
    clear hK KK
    (try simp only [nz])
    refine on1 2 rfl fun KK hK => ?_
    go_simp
    refine hK.out _ _ (HMK1.out _ HKX1.out) fun hHeld => ?_
    clear hK KK
    (try simp only [nz])
    refine on1 3 rfl fun KK hK => ?_
    go_simp
    refine hK.out _ _ (HMK1.out _ HKX1.out) fun hHeld => ?_
    clear hK KK
    (try simp only [nz])
    refine on1 4 rfl fun KK hK => ?_
    go_simp
    refine hK.out _ _ (HMK1.out _ HKX1.out) fun hHeld => ?_
    clear hK KK
    (try simp only [nz])
    refine on1 5 rfl fun KK hK => ?_
    go_simp
    refine hK.out _ _ (HMK1.out _ HKX1.out) fun hHeld => ?_
    clear hK KK
    (try simp only [nz])
    refine on1 6 rfl fun KK hK => ?_
    go_simp
    refine hK.out _ _ (HMK1.out _ HKX1.out) fun hHeld => ?_
    clear hK KK
    refine tks 7 rfl hHeld ?_
    refine tks 8 rfl hHeld ?_
    (try simp only [nz])
    refine tks 12 rfl hHeld ?_
    (try simp only [nz])
    refine on1 9 rfl fun KK hK => ?_
    go_simp
    refine hK.out _ _ (HMK1.out _ HKX1.out) fun hHeld => ?_
    clear hK KK
    (try simp only [nz])
    refine on1 10 rfl fun KK hK => ?_
    go_simp
    refine hK.out _ _ (HMK1.out _ HKX1.out) fun hHeld => ?_
    clear hK KK
    (try simp only [nz])
    refine on1 11 rfl fun KK hK => ?_
    go_simp
    refine hK.out _ _ (HMK1.out _ HKX1.out) fun hHeld => ?_
    clear hK KK
    (try simp only [nz])
    refine on1 13 rfl fun KK hK => ?_
    go_simp
    refine hK.out _ _ (HMK1.out _ HKX1.out) fun hHeld => ?_
    clear hK KK
    (try simp only [nz])
    refine on1 14 rfl fun KK hK => ?_
    go_simp
    refine hK.out _ _ (HMK1.out _ HKX1.out) fun hHeld => ?_
    clear hK KK
    (try simp only [nz])
    refine on1 15 rfl fun KK hK => ?_
    go_simp
    refine hK.out _ _ (HMK1.out _ HKX1.out) fun hHeld => ?_
    clear hK KK
    (try simp only [nz])
    refine on1 16 rfl fun KK hK => ?_
    go_simp
    refine hK.out _ _ (HMK1.out _ HKX1.out) fun hHeld => ?_
    clear hK KK
    (try simp only [nz])
    refine wpAnyH_done (by kernel_rfl) ?_ _
    refine NoPanic.normal ?_
    clear hHeld HMK1
    have e : Hid (R = false) := show R = false by rw [HD.out, rowOk_no HY.out HQ.out]
    have HE : Hid (KF W w3) := (HO.out.trans HKX1.out)
    clear HO HKX1
    go_wp2_with fail
    go_ret
    exact ⟨by rw [e.out]; rfl, HE⟩
   case true =>
    rcases Nat.eq_zero_or_pos i with h0 | h0
    case inl =>
     have h0I : ¬ (0 : Int) < (i : Int) := by omega
     have h0N : ¬ 0 < i := by omega
     have H0 := Lib.hid h0
     clear HCC h0
     clear HI hka hb
     generalize wr.alloc (bR yr1 yr2) = w1 at *
     obtain ⟨p0, f0, p1, f1⟩ := cf2 HB.out
     clear f0 f1
     have HMK19 : Hid (∀ w' : World, KF w1 w' → w'.cell? ⟨b, 0, none⟩ = some (.string ⟨yr1.toArray⟩) ∧ w'.cell? ⟨b, 1, none⟩ = some (.string ⟨yr2.toArray⟩)) := fun w' hk => ⟨kc hk p0, kc hk p1⟩
     have HKX19 : Hid (KF w1 w1.drew) := (Keeps.refl _ _).drew
     have hS0 := HMK19.out _ HKX19.out
     clear p0 p1
     refine wp_region_noPanic ?_
     refine wp_region_held_drew (S := (fun w' => w'.cell? ⟨b, 0, none⟩ = some (.string ⟨yr1.toArray⟩) ∧ w'.cell? ⟨b, 1, none⟩ = some (.string ⟨yr2.toArray⟩))) (by kernel_rfl) hS0 (fun hHeld => ?_)
     clear hS0
     generalize w1.drew = w2 at *
     refine tk 0 rfl hHeld ?_
     (try simp only [nz])
     refine on1 1 rfl fun KK hK => ?_
     go_simp
     refine (HP.out _).mono ?_
     rintro e w3 ⟨rfl, hk⟩
     replace HKX19 := Lib.hid (HKX19.out.trans hk.out)
     clear hk HP
     go_simp
     refine hK.out _ _ (HMK19.out _ HKX19.out) fun hHeld => ?_
     clear hK KK
     (try simp only [nz])
     refine on1 2 rfl fun KK hK => ?_
     go_simp
     refine hK.out _ _ (HMK19.out _ HKX19.out) fun hHeld => ?_
     clear hK KK
     (try simp only [nz])
     refine on1 3 rfl fun KK hK => ?_
     go_simp
     refine hK.out _ _ (HMK19.out _ HKX19.out) fun hHeld => ?_
     clear hK KK
     (try simp only [nz])
     refine on1 4 rfl fun KK hK => ?_
     go_simp
     refine hK.out _ _ (HMK19.out _ HKX19.out) fun hHeld => ?_
     clear hK KK
     (try simp only [nz])
     refine on1 5 rfl fun KK hK => ?_
     go_simp
     refine hK.out _ _ (HMK19.out _ HKX19.out) fun hHeld => ?_
     clear hK KK
     (try simp only [nz])
     refine on1 6 rfl fun KK hK => ?_
     go_simp
     refine hK.out _ _ (HMK19.out _ HKX19.out) fun hHeld => ?_
     clear hK KK
     refine tks 7 rfl hHeld ?_
     refine tks 8 rfl hHeld ?_
     (try simp only [nz])
     refine tks 12 rfl hHeld ?_
     (try simp only [nz])
     refine on1 9 rfl fun KK hK => ?_
     go_simp
     refine hK.out _ _ (HMK19.out _ HKX19.out) fun hHeld => ?_
     clear hK KK
     (try simp only [nz])
     refine on1 10 rfl fun KK hK => ?_
     go_simp
     refine hK.out _ _ (HMK19.out _ HKX19.out) fun hHeld => ?_
     clear hK KK
     (try simp only [nz])
     refine on1 11 rfl fun KK hK => ?_
     go_simp
     refine hK.out _ _ (HMK19.out _ HKX19.out) fun hHeld => ?_
     clear hK KK
     (try simp only [nz])
     refine on1 13 rfl fun KK hK => ?_
     go_simp
     refine hK.out _ _ (HMK19.out _ HKX19.out) fun hHeld => ?_
     clear hK KK
     (try simp only [nz])
     refine on1 14 rfl fun KK hK => ?_
     go_simp
     refine hK.out _ _ (HMK19.out _ HKX19.out) fun hHeld => ?_
     clear hK KK
     (try simp only [nz])
     refine on1 15 rfl fun KK hK => ?_
     go_simp
     refine hK.out _ _ (HMK19.out _ HKX19.out) fun hHeld => ?_
     clear hK KK
     (try simp only [nz])
     refine on1 16 rfl fun KK hK => ?_
     go_simp
     refine hK.out _ _ (HMK19.out _ HKX19.out) fun hHeld => ?_
     clear hK KK
     (try simp only [nz])
     refine wpAnyH_done (by kernel_rfl) ?_ _
     refine NoPanic.normal ?_
     clear hHeld HMK19
     have HN2 : Hid (KF W w3 ∧ POk roleB rolLt l (i + 1)) := ⟨HO.out.trans HKX19.out, by have hy := HY.out; rw [show i = 0 from H0.out] at hy ⊢; exact POk.first hy HQ.out⟩
     clear HO HKX19 HIO
     go_wp2_with fail
     go_roundg (n - (i + 1))
     case measure => omega
     case rel => exact ⟨i + 1, by omega, rfl, by go_num, HN2⟩
    case inr =>
     have h0I : (0 : Int) < (i : Int) := by omega
     obtain ⟨m, hm⟩ : ∃ m, i = m + 1 := ⟨i - 1, by omega⟩
     obtain ⟨x, hx⟩ : ∃ x, l[m]? = some x := ⟨_, List.getElem?_eq_getElem (by rw [HN.out]; omega)⟩
     have hwm : IntKind.i64.wrap ((i : Int) - 1) = (m : Int) := by rw [IntWalk.i64_in _ (by omega)]; omega
     have hmI : (m : Int) < (n : Int) := by omega
     have hmcap : m < cap := by omega
     have HX := Lib.hid hx
     obtain ⟨xr1, xr2⟩ := x
     have HM := Lib.hid hm
     clear hx hm
     have d0 : (wr.alloc (bR yr1 yr2)).cell? ⟨g, off + m * 2, none⟩ = some (.string ⟨xr1.toArray⟩) := (hka.cell (p := ⟨g, off + m * 2 + 0, none⟩) (World.block_lt_of_cell? _ _ (HCC.out m _ HX.out 0 _ rfl)) (fun x => x)).trans (HCC.out m _ HX.out 0 _ rfl)
     have d1 : (wr.alloc (bR yr1 yr2)).cell? ⟨g, off + m * 2 + 1, none⟩ = some (.string ⟨xr2.toArray⟩) := (hka.cell (p := ⟨g, off + m * 2 + 1, none⟩) (World.block_lt_of_cell? _ _ (HCC.out m _ HX.out 1 _ rfl)) (fun x => x)).trans (HCC.out m _ HX.out 1 _ rfl)
     clear HCC
     obtain ⟨u, hu⟩ : ∃ u, decide (rolLt (xr1, xr2) (yr1, yr2)) = u := ⟨_, rfl⟩
     have HC : Hid (∀ w, Calls Tryz.prog 166 #[.agg #[.string ⟨xr1.toArray⟩, .string ⟨xr2.toArray⟩], .agg #[.string ⟨yr1.toArray⟩, .string ⟨yr2.toArray⟩]] w fun e W' => e = .returned (.bool u) ∧ Hid (KF w W')) := fun w => by rw [← hu]; exact sless_spec (xr1, xr2) (yr1, yr2)
     clear HI hka hb
     generalize wr.alloc (bR yr1 yr2) = w1 at *
     obtain ⟨p0, f0, p1, f1⟩ := cf2 HB.out
     clear f0 f1
     have HMK37 : Hid (∀ w' : World, KF w1 w' → w'.cell? ⟨b, 0, none⟩ = some (.string ⟨yr1.toArray⟩) ∧ w'.cell? ⟨b, 1, none⟩ = some (.string ⟨yr2.toArray⟩) ∧ w'.cell? ⟨g, off + m * 2, none⟩ = some (.string ⟨xr1.toArray⟩) ∧ w'.cell? ⟨g, off + m * 2 + 1, none⟩ = some (.string ⟨xr2.toArray⟩)) := fun w' hk => ⟨kc hk p0, kc hk p1, kc hk d0, kc hk d1⟩
     have HKX37 : Hid (KF w1 w1.drew) := (Keeps.refl _ _).drew
     have hS0 := HMK37.out _ HKX37.out
     clear p0 p1 d0 d1
     refine wp_region_noPanic ?_
     refine wp_region_held_drew (S := (fun w' => w'.cell? ⟨b, 0, none⟩ = some (.string ⟨yr1.toArray⟩) ∧ w'.cell? ⟨b, 1, none⟩ = some (.string ⟨yr2.toArray⟩) ∧ w'.cell? ⟨g, off + m * 2, none⟩ = some (.string ⟨xr1.toArray⟩) ∧ w'.cell? ⟨g, off + m * 2 + 1, none⟩ = some (.string ⟨xr2.toArray⟩))) (by kernel_rfl) hS0 (fun hHeld => ?_)
     clear hS0
     generalize w1.drew = w2 at *
     have HU := Lib.hid hu
     clear hu
     refine tk 0 rfl hHeld ?_
     (try simp only [nz])
     refine on1 1 rfl fun KK hK => ?_
     go_simp
     refine (HP.out _).mono ?_
     rintro e w3 ⟨rfl, hk⟩
     replace HKX37 := Lib.hid (HKX37.out.trans hk.out)
     clear hk HP
     go_simp
     refine hK.out _ _ (HMK37.out _ HKX37.out) fun hHeld => ?_
     clear hK KK
     (try simp only [nz])
     refine on1 2 rfl fun KK hK => ?_
     go_simp
     refine hK.out _ _ (HMK37.out _ HKX37.out) fun hHeld => ?_
     clear hK KK
     (try simp only [nz])
     refine on1 3 rfl fun KK hK => ?_
     go_simp
     refine hK.out _ _ (HMK37.out _ HKX37.out) fun hHeld => ?_
     clear hK KK
     (try simp only [nz])
     refine on1 4 rfl fun KK hK => ?_
     go_simp
     refine hK.out _ _ (HMK37.out _ HKX37.out) fun hHeld => ?_
     clear hK KK
     (try simp only [nz])
     refine on1 5 rfl fun KK hK => ?_
     go_simp
     refine hK.out _ _ (HMK37.out _ HKX37.out) fun hHeld => ?_
     clear hK KK
     (try simp only [nz])
     refine on1 6 rfl fun KK hK => ?_
     go_simp
     refine hK.out _ _ (HMK37.out _ HKX37.out) fun hHeld => ?_
     clear hK KK
     refine tk 7 rfl hHeld ?_
     refine tk 8 rfl hHeld ?_
     (try simp only [nz])
     refine tk 12 rfl hHeld ?_
     refine tk 9 rfl hHeld ?_
     (try simp only [nz])
     refine on1 10 rfl fun KK hK => ?_
     go_simp
     refine hK.out _ _ (HMK37.out _ HKX37.out) fun hHeld => ?_
     clear hK KK
     refine tk 11 rfl hHeld ?_
     (try simp only [nz])
     cases u
     case false =>
      refine on1 13 rfl fun KK hK => ?_
      go_simp
      refine (HC.out _).mono ?_
      rintro e w4 ⟨rfl, hk⟩
      replace HKX37 := Lib.hid (HKX37.out.trans hk.out)
      clear hk HC
      go_simp
      refine hK.out _ _ (HMK37.out _ HKX37.out) fun hHeld => ?_
      clear hK KK
      (try simp only [nz])
      refine on1 14 rfl fun KK hK => ?_
      go_simp
      refine hK.out _ _ (HMK37.out _ HKX37.out) fun hHeld => ?_
      clear hK KK
      (try simp only [nz])
      refine on1 15 rfl fun KK hK => ?_
      go_simp
      refine hK.out _ _ (HMK37.out _ HKX37.out) fun hHeld => ?_
      clear hK KK
      (try simp only [nz])
      refine on1 16 rfl fun KK hK => ?_
      go_simp
      refine hK.out _ _ (HMK37.out _ HKX37.out) fun hHeld => ?_
      clear hK KK
      (try simp only [nz])
      refine wpAnyH_done (by kernel_rfl) ?_ _
      refine NoPanic.normal ?_
      clear hHeld HMK37
      have e : Hid (R = false) := show R = false by rw [HD.out, rowOk_not rolO HX.out (by have hy := HY.out; rw [show i = m + 1 from HM.out] at hy; exact hy) (of_decide_eq_false HU.out)]
      have HE : Hid (KF W w4) := (HO.out.trans HKX37.out)
      clear HO HKX37
      go_wp2_with fail
      go_ret
      exact ⟨by rw [e.out]; rfl, HE⟩
     case true =>
      refine on1 13 rfl fun KK hK => ?_
      go_simp
      refine (HC.out _).mono ?_
      rintro e w4 ⟨rfl, hk⟩
      replace HKX37 := Lib.hid (HKX37.out.trans hk.out)
      clear hk HC
      go_simp
      refine hK.out _ _ (HMK37.out _ HKX37.out) fun hHeld => ?_
      clear hK KK
      (try simp only [nz])
      refine on1 14 rfl fun KK hK => ?_
      go_simp
      refine hK.out _ _ (HMK37.out _ HKX37.out) fun hHeld => ?_
      clear hK KK
      (try simp only [nz])
      refine on1 15 rfl fun KK hK => ?_
      go_simp
      refine hK.out _ _ (HMK37.out _ HKX37.out) fun hHeld => ?_
      clear hK KK
      (try simp only [nz])
      refine on1 16 rfl fun KK hK => ?_
      go_simp
      refine hK.out _ _ (HMK37.out _ HKX37.out) fun hHeld => ?_
      clear hK KK
      (try simp only [nz])
      refine wpAnyH_done (by kernel_rfl) ?_ _
      refine NoPanic.normal ?_
      clear hHeld HMK37
      have HN2 : Hid (KF W w4 ∧ POk roleB rolLt l (i + 1)) := ⟨HO.out.trans HKX37.out, by have hy := HY.out; have q := HIO.out; rw [show i = m + 1 from HM.out] at hy q ⊢; exact q.next HX.out hy HQ.out (of_decide_eq_true HU.out)⟩
      clear HO HKX37 HIO
      go_wp2_with fail
      go_roundg (n - (i + 1))
      case measure => omega
      case rel => exact ⟨i + 1, by omega, rfl, by go_num, HN2⟩
  ·obtain rfl : i = n := by omega
   have hiI : ¬ (i : Int) < (i : Int) := by omega
   have e : Hid (R = true) := show R = true by rw [HD.out]; exact rowOk_yes rolO (by rw [HN.out]; exact HI.out.2)
   have HE := Lib.hid HI.out.1
   clear HI
   go_wp2_with fail
   go_ret
   exact ⟨by rw [e.out]; rfl, HE⟩
end Go.Proofs.YtckikkkdabpjkaaGreat
