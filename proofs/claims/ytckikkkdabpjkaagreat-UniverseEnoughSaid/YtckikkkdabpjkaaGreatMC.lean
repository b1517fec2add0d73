/-
 The document's order of statements.
-/
import Derived.Test.YtckikkkdabpjkaaGreatMAA
import Derived.Test.YtckikkkdabpjkaaGreatKitSq
import Derived.Test.YtckikkkdabpjkaaGreatMB
set_option linter.unusedVariables false
set_option linter.unusedSimpArgs false
set_option linter.unnecessarySimpa false
namespace Go.Proofs.YtckikkkdabpjkaaGreat
open Go.ChangeShapes Go.WideShapes Go.ChangeAt Go.RowKit Go.Deep
section
variable {W : World}
set_option maxRecDepth 100000
set_option maxHeartbeats 3200000
end
end Go.Proofs.YtckikkkdabpjkaaGreat
/-
 Rows of statements in memory.
-/
set_option linter.unusedVariables false
set_option linter.unusedSimpArgs false
set_option linter.unnecessarySimpa false
namespace Go.Proofs.YtckikkkdabpjkaaGreat
open Go.ChangeShapes Go.WideShapes Go.ChangeAt Go.RowKit Go.Deep
/-- A statement's nine cells, from a place on. -/
def Nine (w : World) (g o : Nat) (s : Stm) : Prop :=
 w.cell? ⟨g, o, none⟩ = some (.int .i64 s.2.1) ∧ w.cell? ⟨g, o + 1, none⟩ = some (.string ⟨s.1.1.toArray⟩) ∧ w.cell? ⟨g, o + 2, none⟩ = some (.string ⟨s.1.2.toArray⟩) ∧ w.cell? ⟨g, o + 3, none⟩ = some (.string ⟨s.2.2.1.toArray⟩) ∧ w.cell? ⟨g, o + 4, none⟩ = some (.string ⟨s.2.2.2.1.1.toArray⟩) ∧ w.cell? ⟨g, o + 5, none⟩ = some (.string ⟨s.2.2.2.1.2.toArray⟩) ∧ w.cell? ⟨g, o + 6, none⟩ = some (.string ⟨s.2.2.2.2.1.1.toArray⟩) ∧ w.cell? ⟨g, o + 7, none⟩ = some (.string ⟨s.2.2.2.2.1.2.toArray⟩) ∧ w.cell? ⟨g, o + 8, none⟩ = some (.string ⟨s.2.2.2.2.2.toArray⟩)
theorem Nine.keeps {w w' : World} {g o : Nat} {s : Stm} (h : Nine w g o s) (hg : g < w.heap.size) {S : Nat → Prop} (hk : Keeps S w w') (hs : ¬ S g) : Nine w' g o s := by
 obtain ⟨h0, h1, h2, h3, h4, h5, h6, h7, h8⟩ := h
 have k : ∀ (j : Nat) (v : Value), w.cell? ⟨g, j, none⟩ = some v → w'.cell? ⟨g, j, none⟩ = some v := fun j v h => (hk.cell (p := ⟨g, j, none⟩) hg hs).trans h
 exact ⟨k _ _ h0, k _ _ h1, k _ _ h2, k _ _ h3, k _ _ h4, k _ _ h5, k _ _ h6, k _ _ h7, k _ _ h8⟩
/-- A slice that reads as statements. -/
def ReadsM (w : World) (v : Value) (l : List Stm) : Prop :=
 ∃ ao cap, v = .slice ao l.length cap ∧ l.length ≤ cap ∧ (0 < l.length → ∃ g off, ao = some ⟨g, off, none⟩ ∧ g < w.heap.size ∧ ∀ (j : Nat) (s : Stm), l[j]? = some s → Nine w g (off + j * 9) s)
theorem ReadsM.keeps {w w' : World} {v : Value} {l : List Stm} (h : ReadsM w v l) (hk : Keeps (fun _ => False) w w') : ReadsM w' v l := by
 obtain ⟨ao, cap, hv, hle, hr⟩ := h
 refine ⟨ao, cap, hv, hle, fun h0 => ?_⟩
 obtain ⟨g, off, h1, h2, h3⟩ := hr h0
 exact ⟨g, off, h1, Nat.lt_of_lt_of_le h2 hk.size, fun j x hj => (h3 j x hj).keeps h2 hk (fun x => x)⟩
end Go.Proofs.YtckikkkdabpjkaaGreat
/-
 Is a statement in a row? (the document's)
-/
set_option linter.unusedVariables false
set_option linter.unusedSimpArgs false
set_option linter.unnecessarySimpa false
namespace Go.Proofs.YtckikkkdabpjkaaGreat
open Go.ChangeShapes Go.WideShapes Go.ChangeAt Go.RowKit Go.Deep
section
variable {W : World}
set_option maxRecDepth 100000
set_option maxHeartbeats 3200000
theorem mhas_spec {v : Value} {l : List Stm} (h : ReadsM W v l) (hl : l.length ≤ 1000000) (s : Stm) :
 Calls Tryz.prog 34 #[v, stmV s] W fun e W' => e = .returned (.bool (decide (s ∈ l))) ∧ Hid (KF W W') := by
 obtain ⟨ao, cap, rfl, hle, hr⟩ := h
 obtain ⟨n, hn⟩ : ∃ n, l.length = n := ⟨_, rfl⟩
 rw [hn] at hle hr hl ⊢
 have HR := Lib.hid hr
 have HN := Lib.hid hn
 have HX : Hid (∀ i y, l[i]? = some y → y = s → decide (s ∈ l) = true) := fun i y hy e => decide_eq_true (by rw [← e]; exact List.mem_of_getElem? hy)
 have HO : Hid (s ∉ l.take n → decide (s ∈ l) = false) := fun h => decide_eq_false (by rw [← hn, List.take_length] at h; exact h)
 obtain ⟨res, hres⟩ : ∃ r, decide (s ∈ l) = r := ⟨_, rfl⟩
 rw [hres] at HX HO ⊢
 clear hr hn hres
 obtain ⟨⟨sh1, sh2⟩, sk, so, ⟨sa1, sa2⟩, ⟨sb1, sb2⟩, si⟩ := s
 have HK0 : Hid (KF W (W.alloc (bM sk sh1 sh2 so sa1 sa2 sb1 sb2 si))) := (Keeps.refl _ _).alloc _
 have hal := (MapKept.heap_alloc W (bM sk sh1 sh2 so sa1 sa2 sb1 sb2 si)).1
 obtain ⟨WA, hWA⟩ : ∃ WA, W.alloc (bM sk sh1 sh2 so sa1 sa2 sb1 sb2 si) = WA := ⟨_, rfl⟩
 rw [hWA] at HK0 hal
 have HA := Lib.hid hal
 clear hal
 unfold stmV
 go_enter Tryz.func34, Tryz.ntmps34
 go_upto_region 1 with fail
 clear hWA
 go_wp2_with fail
 go_loopg [9] n (fun g t wx => ∃ i : Nat, i ≤ n ∧ g = n - i ∧ t = .int .i64 i ∧ Hid (((sh1, sh2), sk, so, (sa1, sa2), (sb1, sb2), si) ∉ l.take i ∧ KF WA wx))
 case atStart => exact ⟨0, Nat.zero_le _, rfl, rfl, by simp, Keeps.refl _ _⟩
 case round =>
  obtain ⟨i, hi, rfl, rfl, HI⟩ := hrel
  by_cases hlt : i < n
  ·have hiI : (i : Int) < (n : Int) := by omega
   have hwi : IntKind.i64.wrap ((i : Int) + 1) = (i : Int) + 1 := IntWalk.i64_in _ (by omega)
   obtain ⟨y, hy⟩ : ∃ y, l[i]? = some y := ⟨_, List.getElem?_eq_getElem (by rw [HN.out]; exact hlt)⟩
   obtain ⟨g, off, rfl, hg, hcc⟩ := HR.out (by omega)
   have hicap : i < cap := by omega
   have hkw : KF W wr := HK0.out.trans HI.out.2
   have hnine := (hcc i y hy).keeps hg hkw (fun x => x)
   have hA := (HI.out.2.block _ (lt_of_heap HA.out) (fun x => x)).trans HA.out
   obtain ⟨p0, p1, p2, p3, p4, p5, p6, p7, p8⟩ := cells9 hA
   have HY := Lib.hid hy
   have l1 := lt_of_heap hA
   have hne : ¬ wr.heap.size = W.heap.size := by omega
   have hne2 : ¬ W.heap.size = wr.heap.size := by omega
   have HAL : Hid (∀ o : Obj, KF WA (wr.alloc o)) := fun o => HI.out.2.trans ((Keeps.refl _ _).alloc _)
   obtain ⟨⟨yh1, yh2⟩, yk, yo, ⟨ya1, ya2⟩, ⟨yb1, yb2⟩, yi⟩ := y
   obtain ⟨q0, q1, q2, q3, q4, q5, q6, q7, q8⟩ := hnine
   simp only at q0 q1 q2 q3 q4 q5 q6 q7 q8
   have HKW : Hid (∀ o : Obj, KF W (wr.alloc o)) := fun o => hkw.trans ((Keeps.refl _ _).alloc _)
   by_cases e : ((yh1, yh2), yk, yo, (ya1, ya2), (yb1, yb2), yi) = ((sh1, sh2), sk, so, (sa1, sa2), (sb1, sb2), si)
   ·have hr1 : res = true := HX.out i _ HY.out e
    subst hr1
    simp only [Prod.mk.injEq] at e
    obtain ⟨⟨rfl, rfl⟩, rfl, rfl, ⟨rfl, rfl⟩, ⟨rfl, rfl⟩, rfl⟩ := e
    clear HX HO HY HI HAL hA hkw hcc hy
    go_wp2_with fail
    go_ret
    exact ⟨rfl, HKW.out _⟩
   ·have HNX : Hid (((sh1, sh2), sk, so, (sa1, sa2), (sb1, sb2), si) ∉ l.take (i + 1)) := by
     show ¬ _
     rw [List.take_add_one, HY.out, List.mem_append]
     rintro (q | q)
     ·exact HI.out.1 q
     ·simp at q
      exact e (by simp [q])
    have hd : yk ≠ sk ∨ yh1 ≠ sh1 ∨ yh2 ≠ sh2 ∨ yo ≠ so ∨ ya1 ≠ sa1 ∨ ya2 ≠ sa2 ∨ yb1 ≠ sb1 ∨ yb2 ≠ sb2 ∨ yi ≠ si := by
     apply Classical.byContradiction
     intro hc
     simp only [not_or, Classical.not_not] at hc
     obtain ⟨rfl, rfl, rfl, rfl, rfl, rfl, rfl, rfl, rfl⟩ := hc
     exact e rfl
    clear e HI HY HKW hA hkw hcc hy
    rcases hd with hd | hd | hd | hd | hd | hd | hd | hd | hd
    all_goals
     first | (have hb := beq_eq_false_iff_ne.2 hd)
     clear hd
     go_wp2_with fail
     go_roundg (n - (i + 1))
     case measure => omega
     case rel => exact ⟨i + 1, by omega, rfl, by go_num, HNX.out, HAL.out _⟩
  ·obtain rfl : i = n := by omega
   have hiI : ¬ (i : Int) < (i : Int) := by omega
   have hr1 : res = false := HO.out HI.out.1
   subst hr1
   have HE : Hid (KF W wr) := HK0.out.trans HI.out.2
   clear HI HX HO
   go_wp2_with fail
   go_ret
   exact ⟨rfl, HE⟩
end
end Go.Proofs.YtckikkkdabpjkaaGreat
/-
 Rows of roles in memory; the document's Has and Same of them.
-/
set_option linter.unusedVariables false
set_option linter.unusedSimpArgs false
set_option linter.unnecessarySimpa false
namespace Go.Proofs.YtckikkkdabpjkaaGreat
open Go.ChangeShapes Go.WideShapes Go.ChangeAt Go.RowKit Go.Deep
/-- A slice that reads as roles. -/
def ReadsR (w : World) (v : Value) (l : List Rol) : Prop :=
 ∃ ao cap, v = .slice ao l.length cap ∧ l.length ≤ cap ∧ (0 < l.length → ∃ g off, ao = some ⟨g, off, none⟩ ∧ g < w.heap.size ∧ ∀ (j : Nat) (s : Rol), l[j]? = some s → w.cell? ⟨g, off + j * 2, none⟩ = some (.string ⟨s.1.toArray⟩) ∧ w.cell? ⟨g, off + j * 2 + 1, none⟩ = some (.string ⟨s.2.toArray⟩))
theorem ReadsR.keeps {w w' : World} {v : Value} {l : List Rol} (h : ReadsR w v l) (hk : KF w w') : ReadsR w' v l := by
 obtain ⟨ao, cap, hv, hle, hr⟩ := h
 refine ⟨ao, cap, hv, hle, fun h0 => ?_⟩
 obtain ⟨g, off, h1, h2, h3⟩ := hr h0
 exact ⟨g, off, h1, Nat.lt_of_lt_of_le h2 hk.size, fun j x hj => ⟨(hk.cell (p := ⟨g, off + j * 2, none⟩) h2 (fun x => x)).trans (h3 j x hj).1, (hk.cell (p := ⟨g, off + j * 2 + 1, none⟩) h2 (fun x => x)).trans (h3 j x hj).2⟩⟩
set_option maxRecDepth 100000
set_option maxHeartbeats 3200000
theorem rhas_spec {W : World} {v : Value} {l : List Rol} (h : ReadsR W v l) (hl : l.length ≤ 1000000) (s : Rol) :
 Calls Tryz.prog 57 #[v, rolV2 s] W fun e W' => e = .returned (.bool (decide (s ∈ l))) ∧ Hid (KF W W') := by
 obtain ⟨ao, cap, rfl, hle, hr⟩ := h
 obtain ⟨n, hn⟩ : ∃ n, l.length = n := ⟨_, rfl⟩
 rw [hn] at hle hr hl ⊢
 have HR := Lib.hid hr
 have HN := Lib.hid hn
 have HX : Hid (∀ (i : Nat) (y : Rol), l[i]? = some y → y = s → decide (s ∈ l) = true) := fun i y hy e => decide_eq_true (by rw [← e]; exact List.mem_of_getElem? hy)
 have HO : Hid (s ∉ l.take n → decide (s ∈ l) = false) := fun h => decide_eq_false (by rw [← hn, List.take_length] at h; exact h)
 obtain ⟨res, hres⟩ : ∃ r, decide (s ∈ l) = r := ⟨_, rfl⟩
 rw [hres] at HX HO ⊢
 clear hr hn hres
 obtain ⟨s1, s2⟩ := s
 obtain ⟨WA, hWA⟩ : ∃ WA, W.alloc (bR s1 s2) = WA := ⟨_, rfl⟩
 have hal := (MapKept.heap_alloc W (bR s1 s2)).1
 have HK0 : Hid (KF W WA) := by rw [← hWA]; exact (Keeps.refl _ _).alloc _
 rw [hWA] at hal
 have HA := Lib.hid hal
 clear hal
 unfold rolV2
 go_enter Tryz.func57, Tryz.ntmps57
 go_upto_region 1 with fail
 clear hWA
 go_wp2_with fail
 go_loopg [9] n (fun g t wx => ∃ i : Nat, i ≤ n ∧ g = n - i ∧ t = .int .i64 i ∧ Hid (((s1, s2) : Rol) ∉ l.take i ∧ KF WA wx))
 case atStart => exact ⟨0, Nat.zero_le _, rfl, rfl, by simp, Keeps.refl _ _⟩
 case round =>
  obtain ⟨i, hi, rfl, rfl, HI⟩ := hrel
  by_cases hlt : i < n
  ·have hiI : (i : Int) < (n : Int) := by omega
   have hwi : IntKind.i64.wrap ((i : Int) + 1) = (i : Int) + 1 := IntWalk.i64_in _ (by omega)
   obtain ⟨y, hy⟩ : ∃ y, l[i]? = some y := ⟨_, List.getElem?_eq_getElem (by rw [HN.out]; exact hlt)⟩
   obtain ⟨g, off, rfl, hg, hcc⟩ := HR.out (by omega)
   have hicap : i < cap := by omega
   have hkw : KF W wr := HK0.out.trans HI.out.2
   have hA := (HI.out.2.block _ (lt_of_heap HA.out) (fun x => x)).trans HA.out
   have p0 := cell_of_heap hA 0
   have p1 := cell_of_heap hA 1
   simp only [List.getElem?_toArray, List.getElem?_cons_zero, List.getElem?_cons_succ] at p0 p1
   have HY := Lib.hid hy
   have l1 := lt_of_heap hA
   have hne : ¬ wr.heap.size = W.heap.size := by omega
   have hne2 : ¬ W.heap.size = wr.heap.size := by omega
   have HAL : Hid (∀ o : Obj, KF WA (wr.alloc o)) := fun o => HI.out.2.trans ((Keeps.refl _ _).alloc _)
   have HKW : Hid (∀ o : Obj, KF W (wr.alloc o)) := fun o => hkw.trans ((Keeps.refl _ _).alloc _)
   have q0 := (hkw.cell (p := ⟨g, off + i * 2, none⟩) hg (fun x => x)).trans (hcc i y hy).1
   have q1 := (hkw.cell (p := ⟨g, off + i * 2 + 1, none⟩) hg (fun x => x)).trans (hcc i y hy).2
   obtain ⟨y1, y2⟩ := y
   simp only at q0 q1
   by_cases e : ((y1, y2) : Rol) = (s1, s2)
   ·have hr1 : res = true := HX.out i _ HY.out e
    subst hr1
    simp only [Prod.mk.injEq] at e
    obtain ⟨rfl, rfl⟩ := e
    clear HX HO HY HI HAL hA hkw hcc hy
    go_wp2_with fail
    go_ret
    exact ⟨rfl, HKW.out _⟩
   ·have HNX : Hid (((s1, s2) : Rol) ∉ l.take (i + 1)) := by
     show ¬ _
     rw [List.take_add_one, HY.out, List.mem_append]
     rintro (q | q)
     ·exact HI.out.1 q
     ·simp at q
      exact e (by simp [q])
    have hd : y1 ≠ s1 ∨ y2 ≠ s2 := by
     apply Classical.byContradiction
     intro hc
     simp only [not_or, Classical.not_not] at hc
     obtain ⟨rfl, rfl⟩ := hc
     exact e rfl
    clear e HI HY HKW hA hkw hcc hy
    rcases hd with hd | hd
    all_goals
     have hb := beq_eq_false_iff_ne.2 hd
     clear hd
     go_wp2_with fail
     go_roundg (n - (i + 1))
     case measure => omega
     case rel => exact ⟨i + 1, by omega, rfl, by go_num, HNX.out, HAL.out _⟩
  ·obtain rfl : i = n := by omega
   have hiI : ¬ (i : Int) < (i : Int) := by omega
   have hr1 : res = false := HO.out HI.out.1
   subst hr1
   have HE : Hid (KF W wr) := HK0.out.trans HI.out.2
   clear HI HX HO
   go_wp2_with fail
   go_ret
   exact ⟨rfl, HE⟩
end Go.Proofs.YtckikkkdabpjkaaGreat
/-
 Rows of statements and of roles as rows of elements of several cells.
-/
set_option linter.unusedVariables false
set_option linter.unusedSimpArgs false
set_option linter.unnecessarySimpa false
namespace Go.Proofs.YtckikkkdabpjkaaGreat
open Go.ChangeShapes Go.WideShapes Go.ChangeAt Go.RowKit Go.Deep
def stmEnc (s : Stm) : List Value := [.int .i64 s.2.1, .string ⟨s.1.1.toArray⟩, .string ⟨s.1.2.toArray⟩, .string ⟨s.2.2.1.toArray⟩, .string ⟨s.2.2.2.1.1.toArray⟩, .string ⟨s.2.2.2.1.2.toArray⟩, .string ⟨s.2.2.2.2.1.1.toArray⟩, .string ⟨s.2.2.2.2.1.2.toArray⟩, .string ⟨s.2.2.2.2.2.toArray⟩]
theorem stmInfo : (Tryz.prog.info? 38).map (fun i => (i.zero, i.size, i.bytes)) = some (some (.agg #[.int .i64 0, .string ⟨#[]⟩, .string ⟨#[]⟩, .string ⟨#[]⟩, .string ⟨#[]⟩, .string ⟨#[]⟩, .string ⟨#[]⟩, .string ⟨#[]⟩, .string ⟨#[]⟩]), 9, 136) := by kernel_rfl
theorem stm_one (x : Stm) : ∀ v ∈ stmEnc x, v.oneCell' = true := fun v hv => by
 unfold stmEnc at hv
 simp only [List.mem_cons, List.not_mem_nil, or_false] at hv
 rcases hv with rfl | rfl | rfl | rfl | rfl | rfl | rfl | rfl | rfl <;> rfl
def stmE : Elt Stm where
 enc := stmEnc
 k := 9
 pos := by decide
 len := fun _ => rfl
 one := stm_one
 T := 38
 S := 22
 z := .agg #[.int .i64 0, .string ⟨#[]⟩, .string ⟨#[]⟩, .string ⟨#[]⟩, .string ⟨#[]⟩, .string ⟨#[]⟩, .string ⟨#[]⟩, .string ⟨#[]⟩, .string ⟨#[]⟩]
 bytes := 136
 hS := Tryz.underlying22
 hT := stmInfo
 hz := rfl
 hb := by decide
def rolEnc (s : Rol) : List Value := [.string ⟨s.1.toArray⟩, .string ⟨s.2.toArray⟩]
theorem rolInfo : (Tryz.prog.info? 28).map (fun i => (i.zero, i.size, i.bytes)) = some (some (.agg #[.string ⟨#[]⟩, .string ⟨#[]⟩]), 2, 32) := by kernel_rfl
theorem rol_one (x : Rol) : ∀ v ∈ rolEnc x, v.oneCell' = true := fun v hv => by
 unfold rolEnc at hv
 simp only [List.mem_cons, List.not_mem_nil, or_false] at hv
 rcases hv with rfl | rfl <;> rfl
def rolE : Elt Rol where
 enc := rolEnc
 k := 2
 pos := by decide
 len := fun _ => rfl
 one := rol_one
 T := 28
 S := 23
 z := .agg #[.string ⟨#[]⟩, .string ⟨#[]⟩]
 bytes := 32
 hS := Tryz.underlying23
 hT := rolInfo
 hz := rfl
 hb := by decide
theorem stm_cells {w : World} {g o : Nat} {s : Stm} (h : ∀ (i : Nat) (u : Value), (stmE.enc s)[i]? = some u → w.cell? ⟨g, o + i, none⟩ = some u) : Nine w g o s :=
 ⟨h 0 _ rfl, h 1 _ rfl, h 2 _ rfl, h 3 _ rfl, h 4 _ rfl, h 5 _ rfl, h 6 _ rfl, h 7 _ rfl, h 8 _ rfl⟩
theorem stm_back {w : World} {g o : Nat} {s : Stm} (h : Nine w g o s) : ∀ (i : Nat) (u : Value), (stmE.enc s)[i]? = some u → w.cell? ⟨g, o + i, none⟩ = some u := fun i u hu => by
 obtain ⟨h0, h1, h2, h3, h4, h5, h6, h7, h8⟩ := h
 match i, hu with
 | 0, hu => rw [← hu]; exact h0
 | 1, hu => rw [← hu]; exact h1
 | 2, hu => rw [← hu]; exact h2
 | 3, hu => rw [← hu]; exact h3
 | 4, hu => rw [← hu]; exact h4
 | 5, hu => rw [← hu]; exact h5
 | 6, hu => rw [← hu]; exact h6
 | 7, hu => rw [← hu]; exact h7
 | 8, hu => rw [← hu]; exact h8
 | i + 9, hu => cases hu
theorem rdk_m {w : World} {v : Value} {l : List Stm} : RdK stmE w v l ↔ ReadsM w v l := by
 constructor
 ·rintro ⟨ao, cap, hv, hle, hr⟩
  refine ⟨ao, cap, hv, hle, fun h0 => ?_⟩
  obtain ⟨g, off, h1, h2, h3⟩ := hr h0
  exact ⟨g, off, h1, h2, fun j x hj => stm_cells (h3 j x hj)⟩
 ·rintro ⟨ao, cap, hv, hle, hr⟩
  refine ⟨ao, cap, hv, hle, fun h0 => ?_⟩
  obtain ⟨g, off, h1, h2, h3⟩ := hr h0
  exact ⟨g, off, h1, h2, fun j x hj => stm_back (h3 j x hj)⟩
theorem rdk_r {w : World} {v : Value} {l : List Rol} : RdK rolE w v l ↔ ReadsR w v l := by
 constructor
 ·rintro ⟨ao, cap, hv, hle, hr⟩
  refine ⟨ao, cap, hv, hle, fun h0 => ?_⟩
  obtain ⟨g, off, h1, h2, h3⟩ := hr h0
  exact ⟨g, off, h1, h2, fun j x hj => ⟨h3 j x hj 0 _ rfl, h3 j x hj 1 _ rfl⟩⟩
 ·rintro ⟨ao, cap, hv, hle, hr⟩
  refine ⟨ao, cap, hv, hle, fun h0 => ?_⟩
  obtain ⟨g, off, h1, h2, h3⟩ := hr h0
  refine ⟨g, off, h1, h2, fun j x hj i u hu => ?_⟩
  match i, hu with
  | 0, hu => rw [← hu]; exact (h3 j x hj).1
  | 1, hu => rw [← hu]; exact (h3 j x hj).2
  | i + 2, hu => cases hu
end Go.Proofs.YtckikkkdabpjkaaGreat
/-
  A statement's nine cells, out of a row's.
-/
set_option linter.unusedVariables false
namespace Go.Proofs.YtckikkkdabpjkaaGreat
open Go
theorem n9 {w : World} {g off i : Nat} {y : Stm} (hc : ∀ (j : Nat) (u : Value), (stmE.enc y)[j]? = some u → w.cell? ⟨g, off + i * stmE.k + j, none⟩ = some u) :
 w.cell? ⟨g, off + i * 9, none⟩ = some (.int .i64 y.2.1) ∧ w.cell? ⟨g, off + i * 9 + 1, none⟩ = some (.string ⟨y.1.1.toArray⟩) ∧ w.cell? ⟨g, off + i * 9 + 2, none⟩ = some (.string ⟨y.1.2.toArray⟩) ∧ w.cell? ⟨g, off + i * 9 + 3, none⟩ = some (.string ⟨y.2.2.1.toArray⟩) ∧ w.cell? ⟨g, off + i * 9 + 4, none⟩ = some (.string ⟨y.2.2.2.1.1.toArray⟩) ∧ w.cell? ⟨g, off + i * 9 + 5, none⟩ = some (.string ⟨y.2.2.2.1.2.toArray⟩) ∧ w.cell? ⟨g, off + i * 9 + 6, none⟩ = some (.string ⟨y.2.2.2.2.1.1.toArray⟩) ∧ w.cell? ⟨g, off + i * 9 + 7, none⟩ = some (.string ⟨y.2.2.2.2.1.2.toArray⟩) ∧ w.cell? ⟨g, off + i * 9 + 8, none⟩ = some (.string ⟨y.2.2.2.2.2.toArray⟩) :=
 ⟨hc 0 _ rfl, hc 1 _ rfl, hc 2 _ rfl, hc 3 _ rfl, hc 4 _ rfl, hc 5 _ rfl, hc 6 _ rfl, hc 7 _ rfl, hc 8 _ rfl⟩
end Go.Proofs.YtckikkkdabpjkaaGreat
