/-
 slices.Index and Contains of statements; the program's Has of a state.
-/
import Derived.Test.YtckikkkdabpjkaaGreatKitSq
import Derived.Test.YtckikkkdabpjkaaGreatMG
import Derived.Test.YtckikkkdabpjkaaGreatME
import Derived.Lib.AppendZerosOnto
set_option linter.unusedVariables false
set_option linter.unusedSimpArgs false
set_option linter.unnecessarySimpa false
namespace Go.Proofs.YtckikkkdabpjkaaGreat
open Go.ChangeShapes Go.WideShapes Go.ChangeAt Go.RowKit Go.Deep
set_option maxRecDepth 100000
set_option maxHeartbeats 6400000
theorem mindex_spec {W : World} {v : Value} {l : List Stm} (h : RdK stmE W v l) (hl : l.length ≤ 1000000) (s : Stm) : Calls Tryz.prog 91 #[v, stmV s] W fun e W' => ∃ r : Int, e = .returned (.int .i64 r) ∧ Hid (IxP (decide (s ∈ l)) r ∧ KF W W') := by
 obtain ⟨ao, cap, rfl, hle, hr⟩ := h
 obtain ⟨n, hn⟩ : ∃ n, l.length = n := ⟨_, rfl⟩
 rw [hn] at hle hr hl ⊢
 have HR : Hid (0 < n → ∃ g off, ao = some ⟨g, off, none⟩ ∧ g < W.heap.size ∧ ∀ (j : Nat) (x : Stm), l[j]? = some x → ∀ (i : Nat) (u : Value), (stmE.enc x)[i]? = some u → W.cell? ⟨g, off + j * 9 + i, none⟩ = some u) := hr
 have HN := Lib.hid hn
 obtain ⟨d, hd⟩ : ∃ d, decide (s ∈ l) = d := ⟨_, rfl⟩
 have HD : Hid (d = decide (s ∈ l)) := hd.symm
 rw [hd]
 clear hr hn hd
 obtain ⟨⟨sh1, sh2⟩, sk, so, ⟨sa1, sa2⟩, ⟨sb1, sb2⟩, si⟩ := s
 obtain ⟨WA, hWA⟩ : ∃ q, W.alloc (bM sk sh1 sh2 so sa1 sa2 sb1 sb2 si) = q := ⟨_, rfl⟩
 have hal := (MapKept.heap_alloc W (bM sk sh1 sh2 so sa1 sa2 sb1 sb2 si)).1
 have HKWA : Hid (KF W WA) := by rw [← hWA]; exact (Keeps.refl _ _).alloc _
 rw [hWA] at hal
 obtain ⟨sb, hsb⟩ : ∃ q, W.heap.size = q := ⟨_, rfl⟩
 have HBsb := Lib.hid hsb
 rw [hsb] at hal
 have HAWA := Lib.hid hal
 clear hal
 unfold stmV
 simp only
 go_enter Tryz.func91, Tryz.ntmps91
 go_upto_region 1 with fail
 (try simp only [hWA, hsb])
 clear hWA hsb
 go_wp2_with fail
 go_loopg [8] n (fun g t wx => ∃ i : Nat, i ≤ n ∧ g = n - i ∧ t = .int .i64 i ∧ Hid (KF WA wx ∧ ∀ (j : Nat) (y : Stm), j < i → l[j]? = some y → y ≠ ((sh1, sh2), sk, so, (sa1, sa2), (sb1, sb2), si)))
 case atStart => exact ⟨0, Nat.zero_le _, rfl, rfl, Keeps.refl _ _, fun j y hj _ => absurd hj (Nat.not_lt_zero _)⟩
 case round =>
  obtain ⟨i, hi, rfl, rfl, HI⟩ := hrel
  by_cases hlt : i < n
  ·have hiI : (i : Int) < (n : Int) := by omega
   have hwi : IntKind.i64.wrap ((i : Int) + 1) = (i : Int) + 1 := IntWalk.i64_in _ (by omega)
   obtain ⟨y, hy⟩ : ∃ y, l[i]? = some y := ⟨_, List.getElem?_eq_getElem (by rw [HN.out]; exact hlt)⟩
   obtain ⟨g, off, rfl, hg, hcc⟩ := HR.out (by omega)
   have hicap : i < cap := by omega
   have hkw : KF W wr := HKWA.out.trans HI.out.1
   have hA := (HI.out.1.block _ (lt_of_heap HAWA.out) (fun x => x)).trans HAWA.out
   obtain ⟨p0, f0, p1, f1, p2, f2, p3, f3, p4, f4, p5, f5, p6, f6, p7, f7, p8, f8⟩ := cf9 hA
   have HY := Lib.hid hy
   obtain ⟨⟨yh1, yh2⟩, yk, yo, ⟨ya1, ya2⟩, ⟨yb1, yb2⟩, yi⟩ := y
   have q0 : wr.cell? ⟨g, off + i * 9, none⟩ = some (.int .i64 yk) := (hkw.cell (p := ⟨g, off + i * 9 + 0, none⟩) hg (fun x => x)).trans (hcc i _ hy 0 _ rfl)
   have q1 : wr.cell? ⟨g, off + i * 9 + 1, none⟩ = some (.string ⟨yh1.toArray⟩) := (hkw.cell (p := ⟨g, off + i * 9 + 1, none⟩) hg (fun x => x)).trans (hcc i _ hy 1 _ rfl)
   have q2 : wr.cell? ⟨g, off + i * 9 + 2, none⟩ = some (.string ⟨yh2.toArray⟩) := (hkw.cell (p := ⟨g, off + i * 9 + 2, none⟩) hg (fun x => x)).trans (hcc i _ hy 2 _ rfl)
   have q3 : wr.cell? ⟨g, off + i * 9 + 3, none⟩ = some (.string ⟨yo.toArray⟩) := (hkw.cell (p := ⟨g, off + i * 9 + 3, none⟩) hg (fun x => x)).trans (hcc i _ hy 3 _ rfl)
   have q4 : wr.cell? ⟨g, off + i * 9 + 4, none⟩ = some (.string ⟨ya1.toArray⟩) := (hkw.cell (p := ⟨g, off + i * 9 + 4, none⟩) hg (fun x => x)).trans (hcc i _ hy 4 _ rfl)
   have q5 : wr.cell? ⟨g, off + i * 9 + 5, none⟩ = some (.string ⟨ya2.toArray⟩) := (hkw.cell (p := ⟨g, off + i * 9 + 5, none⟩) hg (fun x => x)).trans (hcc i _ hy 5 _ rfl)
   have q6 : wr.cell? ⟨g, off + i * 9 + 6, none⟩ = some (.string ⟨yb1.toArray⟩) := (hkw.cell (p := ⟨g, off + i * 9 + 6, none⟩) hg (fun x => x)).trans (hcc i _ hy 6 _ rfl)
   have q7 : wr.cell? ⟨g, off + i * 9 + 7, none⟩ = some (.string ⟨yb2.toArray⟩) := (hkw.cell (p := ⟨g, off + i * 9 + 7, none⟩) hg (fun x => x)).trans (hcc i _ hy 7 _ rfl)
   have q8 : wr.cell? ⟨g, off + i * 9 + 8, none⟩ = some (.string ⟨yi.toArray⟩) := (hkw.cell (p := ⟨g, off + i * 9 + 8, none⟩) hg (fun x => x)).trans (hcc i _ hy 8 _ rfl)
   have HIK := Lib.hid HI.out.1
   have HIN := Lib.hid HI.out.2
   obtain ⟨b, hb⟩ : ∃ b, decide ((((sh1, sh2), sk, so, (sa1, sa2), (sb1, sb2), si) : Stm) = ((yh1, yh2), yk, yo, (ya1, ya2), (yb1, yb2), yi)) = b := ⟨_, rfl⟩
   have HQ : ∀ w, (binOp .eql 38 (.agg #[.int .i64 sk, .string ⟨sh1.toArray⟩, .string ⟨sh2.toArray⟩, .string ⟨so.toArray⟩, .string ⟨sa1.toArray⟩, .string ⟨sa2.toArray⟩, .string ⟨sb1.toArray⟩, .string ⟨sb2.toArray⟩, .string ⟨si.toArray⟩]) (.agg #[.int .i64 yk, .string ⟨yh1.toArray⟩, .string ⟨yh2.toArray⟩, .string ⟨yo.toArray⟩, .string ⟨ya1.toArray⟩, .string ⟨ya2.toArray⟩, .string ⟨yb1.toArray⟩, .string ⟨yb2.toArray⟩, .string ⟨yi.toArray⟩])).run Tryz.prog w = .ok (.bool b) w := fun w => by rw [← hb]; exact stm_eql ((sh1, sh2), sk, so, (sa1, sa2), (sb1, sb2), si) ((yh1, yh2), yk, yo, (ya1, ya2), (yb1, yb2), yi) w
   have HBB := Lib.hid hb
   clear hcc hy hA f0 f1 f2 f3 f4 f5 f6 f7 f8 hkw HI hb
   go_upto_region 4 with fail
   have HMK1 : Hid (∀ w' : World, KF wr w' → w'.cell? ⟨sb, 0, none⟩ = some (.int .i64 sk) ∧ w'.cell? ⟨sb, 1, none⟩ = some (.string ⟨sh1.toArray⟩) ∧ w'.cell? ⟨sb, 2, none⟩ = some (.string ⟨sh2.toArray⟩) ∧ w'.cell? ⟨sb, 3, none⟩ = some (.string ⟨so.toArray⟩) ∧ w'.cell? ⟨sb, 4, none⟩ = some (.string ⟨sa1.toArray⟩) ∧ w'.cell? ⟨sb, 5, none⟩ = some (.string ⟨sa2.toArray⟩) ∧ w'.cell? ⟨sb, 6, none⟩ = some (.string ⟨sb1.toArray⟩) ∧ w'.cell? ⟨sb, 7, none⟩ = some (.string ⟨sb2.toArray⟩) ∧ w'.cell? ⟨sb, 8, none⟩ = some (.string ⟨si.toArray⟩) ∧ w'.cell? ⟨g, off + i * 9, none⟩ = some (.int .i64 yk) ∧ w'.cell? ⟨g, off + i * 9 + 1, none⟩ = some (.string ⟨yh1.toArray⟩) ∧ w'.cell? ⟨g, off + i * 9 + 2, none⟩ = some (.string ⟨yh2.toArray⟩) ∧ w'.cell? ⟨g, off + i * 9 + 3, none⟩ = some (.string ⟨yo.toArray⟩) ∧ w'.cell? ⟨g, off + i * 9 + 4, none⟩ = some (.string ⟨ya1.toArray⟩) ∧ w'.cell? ⟨g, off + i * 9 + 5, none⟩ = some (.string ⟨ya2.toArray⟩) ∧ w'.cell? ⟨g, off + i * 9 + 6, none⟩ = some (.string ⟨yb1.toArray⟩) ∧ w'.cell? ⟨g, off + i * 9 + 7, none⟩ = some (.string ⟨yb2.toArray⟩) ∧ w'.cell? ⟨g, off + i * 9 + 8, none⟩ = some (.string ⟨yi.toArray⟩)) := fun w' hk => ⟨kc hk p0, kc hk p1, kc hk p2, kc hk p3, kc hk p4, kc hk p5, kc hk p6, kc hk p7, kc hk p8, kc hk q0, kc hk q1, kc hk q2, kc hk q3, kc hk q4, kc hk q5, kc hk q6, kc hk q7, kc hk q8⟩
   have HKX1 : Hid (KF wr wr.drew) := (Keeps.refl _ _).drew
   have hS0 := HMK1.out _ HKX1.out
   clear p0 p1 p2 p3 p4 p5 p6 p7 p8 q0 q1 q2 q3 q4 q5 q6 q7 q8
   refine wp_region_noPanic ?_
   refine wp_region_held_drew (S := (fun w' => w'.cell? ⟨sb, 0, none⟩ = some (.int .i64 sk) ∧ w'.cell? ⟨sb, 1, none⟩ = some (.string ⟨sh1.toArray⟩) ∧ w'.cell? ⟨sb, 2, none⟩ = some (.string ⟨sh2.toArray⟩) ∧ w'.cell? ⟨sb, 3, none⟩ = some (.string ⟨so.toArray⟩) ∧ w'.cell? ⟨sb, 4, none⟩ = some (.string ⟨sa1.toArray⟩) ∧ w'.cell? ⟨sb, 5, none⟩ = some (.string ⟨sa2.toArray⟩) ∧ w'.cell? ⟨sb, 6, none⟩ = some (.string ⟨sb1.toArray⟩) ∧ w'.cell? ⟨sb, 7, none⟩ = some (.string ⟨sb2.toArray⟩) ∧ w'.cell? ⟨sb, 8, none⟩ = some (.string ⟨si.toArray⟩) ∧ w'.cell? ⟨g, off + i * 9, none⟩ = some (.int .i64 yk) ∧ w'.cell? ⟨g, off + i * 9 + 1, none⟩ = some (.string ⟨yh1.toArray⟩) ∧ w'.cell? ⟨g, off + i * 9 + 2, none⟩ = some (.string ⟨yh2.toArray⟩) ∧ w'.cell? ⟨g, off + i * 9 + 3, none⟩ = some (.string ⟨yo.toArray⟩) ∧ w'.cell? ⟨g, off + i * 9 + 4, none⟩ = some (.string ⟨ya1.toArray⟩) ∧ w'.cell? ⟨g, off + i * 9 + 5, none⟩ = some (.string ⟨ya2.toArray⟩) ∧ w'.cell? ⟨g, off + i * 9 + 6, none⟩ = some (.string ⟨yb1.toArray⟩) ∧ w'.cell? ⟨g, off + i * 9 + 7, none⟩ = some (.string ⟨yb2.toArray⟩) ∧ w'.cell? ⟨g, off + i * 9 + 8, none⟩ = some (.string ⟨yi.toArray⟩))) (by kernel_rfl) hS0 (fun hHeld => ?_)
   clear hS0
   generalize wr.drew = w2 at *
   refine tk 0 rfl hHeld ?_
   refine tk 1 rfl hHeld ?_
   refine tk 2 rfl hHeld ?_
   (try simp only [nz])
   refine on1 3 rfl fun KK hK => ?_
   go_simp
   refine hK.out _ _ (HMK1.out _ HKX1.out) fun hHeld => ?_
   clear hK KK
   refine tk 4 rfl hHeld ?_
   (try simp only [nz])
   refine on1 5 rfl fun KK hK => ?_
   go_simp
   refine hK.out _ _ (HMK1.out _ HKX1.out) fun hHeld => ?_
   clear hK KK
   (try simp only [nz])
   refine wpAnyH_done (by kernel_rfl) ?_ _
   refine NoPanic.normal ?_
   clear hHeld HMK1
   have HK2 : Hid (KF WA w2) := HIK.out.trans HKX1.out
   clear HIK HKX1 HQ
   cases b
   ·have HN2 : Hid (KF WA w2 ∧ ∀ (j : Nat) (y : Stm), j < i + 1 → l[j]? = some y → y ≠ ((sh1, sh2), sk, so, (sa1, sa2), (sb1, sb2), si)) := ⟨HK2.out, ne_more HIN.out HY.out (fun e => of_decide_eq_false HBB.out e.symm)⟩
    clear HK2 HIN
    go_wp2_with fail
    go_roundg (n - (i + 1))
    case measure => omega
    case rel => exact ⟨i + 1, by omega, rfl, by go_num, HN2⟩
   ·have HP : Hid (IxP d (i : Int) ∧ KF W w2) := ⟨.inl ⟨by rw [HD.out]; exact mem_at HY.out (of_decide_eq_true HBB.out).symm, by omega, by omega⟩, HKWA.out.trans HK2.out⟩
    clear HK2 HIN
    go_wp2_with fail
    go_ret
    exact ⟨_, rfl, HP⟩
  ·obtain rfl : i = n := by omega
   have hiI : ¬ (i : Int) < (i : Int) := by omega
   have HP : Hid (IxP d (-1) ∧ KF W wr) := ⟨.inr ⟨by rw [HD.out]; exact mem_none HN.out HI.out.2, rfl⟩, HKWA.out.trans HI.out.1⟩
   clear HI
   go_wp2_with fail
   go_ret
   exact ⟨_, rfl, HP⟩
theorem mcontains_spec {W : World} {v : Value} {l : List Stm} (h : RdK stmE W v l) (hl : l.length ≤ 1000000) (s : Stm) : Calls Tryz.prog 43 #[v, stmV s] W fun e W' => e = .returned (.bool (decide (s ∈ l))) ∧ Hid (KF W W') := by
 obtain ⟨d, hd⟩ : ∃ d, decide (s ∈ l) = d := ⟨_, rfl⟩
 obtain ⟨⟨sh1, sh2⟩, sk, so, ⟨sa1, sa2⟩, ⟨sb1, sb2⟩, si⟩ := s
 obtain ⟨WA, hWA⟩ : ∃ q, W.alloc (bM sk sh1 sh2 so sa1 sa2 sb1 sb2 si) = q := ⟨_, rfl⟩
 have hal := (MapKept.heap_alloc W (bM sk sh1 sh2 so sa1 sa2 sb1 sb2 si)).1
 have HKWA : Hid (KF W WA) := by rw [← hWA]; exact (Keeps.refl _ _).alloc _
 rw [hWA] at hal
 obtain ⟨sb, hsb⟩ : ∃ q, W.heap.size = q := ⟨_, rfl⟩
 have HBsb := Lib.hid hsb
 rw [hsb] at hal
 have HAWA := Lib.hid hal
 clear hal
 have HC := Lib.hid (mindex_spec (h.keeps HKWA.out) hl ((sh1, sh2), sk, so, (sa1, sa2), (sb1, sb2), si))
 obtain ⟨p0, f0, p1, f1, p2, f2, p3, f3, p4, f4, p5, f5, p6, f6, p7, f7, p8, f8⟩ := cf9 HAWA.out
 rw [hd] at HC ⊢
 clear hd h f0 f1 f2 f3 f4 f5 f6 f7 f8
 unfold stmV at HC ⊢
 simp only at HC ⊢
 go_enter Tryz.func43, Tryz.ntmps43
 go_upto_region 1 with fail
 (try simp only [hWA, hsb])
 clear hWA hsb
 go_wp2_with fail
 refine HC.out.mono ?_
 rintro e w2 ⟨r, rfl, hr⟩
 have HE : Hid (KF W w2) := HKWA.out.trans hr.out.2
 rcases hr.out.1 with ⟨rfl, h0, h1⟩ | ⟨rfl, rfl⟩
 ·clear HC hr
  go_wp2_with fail
  go_ret
  exact ⟨by first | rfl | (show Ending.returned (Value.bool (decide (0 ≤ r))) = _; rw [decide_eq_true h0]), HE⟩
 ·clear HC hr
  go_wp2_with fail
  go_ret
  exact ⟨rfl, HE⟩
theorem shas_spec {W : World} {v : Value} {l : List Stm} (h : RdK stmE W v l) (hl : l.length ≤ 1000000) (s : Stm) : Calls Tryz.prog 128 #[v, stmV s] W fun e W' => e = .returned (.bool (decide (s ∈ l))) ∧ Hid (KF W W') := by
 obtain ⟨d, hd⟩ : ∃ d, decide (s ∈ l) = d := ⟨_, rfl⟩
 obtain ⟨⟨sh1, sh2⟩, sk, so, ⟨sa1, sa2⟩, ⟨sb1, sb2⟩, si⟩ := s
 obtain ⟨WA, hWA⟩ : ∃ q, W.alloc (bM sk sh1 sh2 so sa1 sa2 sb1 sb2 si) = q := ⟨_, rfl⟩
 have hal := (MapKept.heap_alloc W (bM sk sh1 sh2 so sa1 sa2 sb1 sb2 si)).1
 have HKWA : Hid (KF W WA) := by rw [← hWA]; exact (Keeps.refl _ _).alloc _
 rw [hWA] at hal
 obtain ⟨sb, hsb⟩ : ∃ q, W.heap.size = q := ⟨_, rfl⟩
 have HBsb := Lib.hid hsb
 rw [hsb] at hal
 have HAWA := Lib.hid hal
 clear hal
 have HC := Lib.hid (mcontains_spec (h.keeps HKWA.out) hl ((sh1, sh2), sk, so, (sa1, sa2), (sb1, sb2), si))
 obtain ⟨p0, f0, p1, f1, p2, f2, p3, f3, p4, f4, p5, f5, p6, f6, p7, f7, p8, f8⟩ := cf9 HAWA.out
 rw [hd] at HC ⊢
 clear hd h f0 f1 f2 f3 f4 f5 f6 f7 f8
 unfold stmV at HC ⊢
 simp only at HC ⊢
 go_enter Tryz.func128, Tryz.ntmps128
 go_upto_region 1 with fail
 (try simp only [hWA, hsb])
 clear hWA hsb
 go_wp2_with fail
 refine HC.out.mono ?_
 rintro e w2 ⟨rfl, hr⟩
 have HE : Hid (KF W w2) := HKWA.out.trans hr.out
 clear HC hr
 go_wp2_with fail
 go_ret
 exact ⟨rfl, HE⟩
end Go.Proofs.YtckikkkdabpjkaaGreat
/-
 slices.Concat of two rows of statements: one behind the other, in a row of its own.
-/
set_option linter.unusedVariables false
set_option linter.unusedSimpArgs false
set_option linter.unnecessarySimpa false
namespace Go.Proofs.YtckikkkdabpjkaaGreat
open Go.ChangeShapes Go.WideShapes Go.ChangeAt Go.RowKit Go.Deep
section
set_option maxRecDepth 100000
set_option maxHeartbeats 1600000
theorem mgrow_spec (W : World) {n : Nat} (hn : n ≤ 1000000) :
 Calls Tryz.prog 129 #[.slice none 0 0, .int .i64 n] W fun e W' => ∃ v, e = .returned v ∧ Hid (OwnK stmE W.heap.size W' v [] ∧ KF W W') := by
 rcases Nat.eq_zero_or_pos n with h0 | h0
 ·subst h0
  have HP : Hid (OwnK stmE W.heap.size W (.slice none 0 0) [] ∧ KF W W) := ⟨ownK_nil stmE _ _, Keeps.refl _ _⟩
  go_enter Tryz.func129, Tryz.ntmps129
  go_wp2_with fail
  go_ret
  exact ⟨_, rfl, HP⟩
 ·obtain ⟨i0, hi0, hz0, hz1, hz2⟩ := info_parts (stmE).hT
  have hz1 : i0.size = 9 := hz1
  have hz2 : i0.bytes = 136 := hz2
  have hz0 : i0.zero = some (.agg #[.int .i64 0, .string ⟨#[]⟩, .string ⟨#[]⟩, .string ⟨#[]⟩, .string ⟨#[]⟩, .string ⟨#[]⟩, .string ⟨#[]⟩, .string ⟨#[]⟩, .string ⟨#[]⟩]) := hz0
  obtain ⟨G, hG⟩ : ∃ G, grownCap W n 0 38 = G := ⟨_, rfl⟩
  have hGn : n ≤ G := by rw [← hG]; exact grownCap_ge W _ _ _
  have hGm : G ≤ maxLen := by rw [← hG]; exact grownCap_le_maxLen W n 0 _ (by unfold maxLen; omega)
  have hrz : ∀ ty, (Builtin.append_ #[22, 3] ty #[.slice none 0 0, .int .i64 (n : Int)]).run Tryz.prog W = .ok (.slice (some ⟨W.heap.size, 0, none⟩) n G) (W.drew.alloc (.cells (Builtin.zeroCells #[.int .i64 0, .string ⟨#[]⟩, .string ⟨#[]⟩, .string ⟨#[]⟩, .string ⟨#[]⟩, .string ⟨#[]⟩, .string ⟨#[]⟩, .string ⟨#[]⟩, .string ⟨#[]⟩] n ++ Builtin.zeroCells #[.int .i64 0, .string ⟨#[]⟩, .string ⟨#[]⟩, .string ⟨#[]⟩, .string ⟨#[]⟩, .string ⟨#[]⟩, .string ⟨#[]⟩, .string ⟨#[]⟩, .string ⟨#[]⟩] (G - n)) 38)) := fun ty => by
   have h := Lib.run_append_grow_zeros W 22 3 ty 38 i0 (.agg #[.int .i64 0, .string ⟨#[]⟩, .string ⟨#[]⟩, .string ⟨#[]⟩, .string ⟨#[]⟩, .string ⟨#[]⟩, .string ⟨#[]⟩, .string ⟨#[]⟩, .string ⟨#[]⟩]) .i64 .i64 Tryz.underlying22 Tryz.underlying3 hi0 hz0 none 0 0 [] (run_firstCells_none W.drew i0.size 0 0 0) n h0 (by omega) (by omega) (by omega) (by rw [hz2]; omega)
    (by have := growslice_fits (need := 0 + n) (old := 0) (bytes := i0.bytes) (by omega) (by rw [hz2]; omega); exact this)
   simp only [Nat.zero_add] at h
   rw [hG] at h
   rw [h, Array.empty_append]
   rfl
  have hsz : ∀ m : Nat, (Builtin.zeroCells #[.int .i64 0, .string ⟨#[]⟩, .string ⟨#[]⟩, .string ⟨#[]⟩, .string ⟨#[]⟩, .string ⟨#[]⟩, .string ⟨#[]⟩, .string ⟨#[]⟩, .string ⟨#[]⟩] m).size = m * 9 := fun m => by simp [Builtin.zeroCells]
  have HP : Hid (OwnK stmE W.heap.size (W.drew.alloc (.cells (Builtin.zeroCells #[.int .i64 0, .string ⟨#[]⟩, .string ⟨#[]⟩, .string ⟨#[]⟩, .string ⟨#[]⟩, .string ⟨#[]⟩, .string ⟨#[]⟩, .string ⟨#[]⟩, .string ⟨#[]⟩] n ++ Builtin.zeroCells #[.int .i64 0, .string ⟨#[]⟩, .string ⟨#[]⟩, .string ⟨#[]⟩, .string ⟨#[]⟩, .string ⟨#[]⟩, .string ⟨#[]⟩, .string ⟨#[]⟩, .string ⟨#[]⟩] (G - n)) 38)) (.slice (some ⟨W.heap.size, 0, none⟩) 0 G) [] ∧ KF W (W.drew.alloc (.cells (Builtin.zeroCells #[.int .i64 0, .string ⟨#[]⟩, .string ⟨#[]⟩, .string ⟨#[]⟩, .string ⟨#[]⟩, .string ⟨#[]⟩, .string ⟨#[]⟩, .string ⟨#[]⟩, .string ⟨#[]⟩] n ++ Builtin.zeroCells #[.int .i64 0, .string ⟨#[]⟩, .string ⟨#[]⟩, .string ⟨#[]⟩, .string ⟨#[]⟩, .string ⟨#[]⟩, .string ⟨#[]⟩, .string ⟨#[]⟩, .string ⟨#[]⟩] (G - n)) 38))) :=
   ⟨World.ownsRow_made W.drew _ G (Nat.le_refl _) hGm (by rw [Array.size_append, hsz, hsz]; show _ = G * 9; omega), ((Keeps.refl _ _).drew).alloc _⟩
  have hG0 : (0 : Int) ≤ (G : Int) := by omega
  have hnpos : ¬ (n : Int) < 0 := by omega
  have hn2 : (n : Int) > 0 := by omega
  have hw : IntKind.i64.wrap (n : Int) = (n : Int) := IntWalk.i64_in _ (by omega)
  clear hi0 hz0 hz1 hz2 hG hGm hsz
  generalize (W.drew.alloc (.cells (Builtin.zeroCells #[.int .i64 0, .string ⟨#[]⟩, .string ⟨#[]⟩, .string ⟨#[]⟩, .string ⟨#[]⟩, .string ⟨#[]⟩, .string ⟨#[]⟩, .string ⟨#[]⟩, .string ⟨#[]⟩] n ++ Builtin.zeroCells #[.int .i64 0, .string ⟨#[]⟩, .string ⟨#[]⟩, .string ⟨#[]⟩, .string ⟨#[]⟩, .string ⟨#[]⟩, .string ⟨#[]⟩, .string ⟨#[]⟩, .string ⟨#[]⟩] (G - n)) 38)) = W2 at hrz HP
  go_enter Tryz.func129, Tryz.ntmps129
  go_wp2_with (at_builtin; refine Lib.wpList_append_run _ rfl _ _ _ _ rfl _ _ rfl rfl _ _ (hrz _) ?_)
  all_goals
   go_ret
   exact ⟨_, rfl, HP⟩
def sumM (Ls : Nat → List Stm) : Nat → Nat
 | 0 => 0
 | j + 1 => sumM Ls j + (Ls j).length
def catM (Ls : Nat → List Stm) : Nat → List Stm
 | 0 => []
 | j + 1 => catM Ls j ++ Ls j
theorem catM_len (Ls : Nat → List Stm) : ∀ j, (catM Ls j).length = sumM Ls j
 | 0 => rfl
 | j + 1 => by
  unfold catM sumM
  rw [List.length_append, catM_len Ls j]
theorem sumM_le {Ls : Nat → List Stm} {b : Nat} (h : ∀ j, (Ls j).length ≤ b) : ∀ j, sumM Ls j ≤ j * b
 | 0 => Nat.zero_le _
 | j + 1 => by
  unfold sumM
  have := sumM_le h j
  have := h j
  rw [Nat.succ_mul]
  omega
theorem mconcat_gen {W : World} {ga : Nat} {us : Nat → Value} {Ls : Nat → List Stm} (hga : ga < W.heap.size) (hc : ∀ j, j < 2 → W.cell? ⟨ga, j, none⟩ = some (us j)) (hr : ∀ j, j < 2 → SrcK stmE W (us j) (Ls j)) (hb : ∀ j, (Ls j).length ≤ 10000) :
 Calls Tryz.prog 80 #[.slice (some ⟨ga, 0, none⟩) 2 2] W fun e W' => ∃ v, e = .returned v ∧ Hid (OwnK stmE W.heap.size W' v (catM Ls 2) ∧ KF W W') := by
 have HC := Lib.hid hc
 have HR := Lib.hid hr
 have HB := Lib.hid hb
 have HSL := Lib.hid (sumM_le hb)
 clear hc hr hb
 go_enter Tryz.func80, Tryz.ntmps80
 go_wp2_with fail
 go_loopg [3, 11] 2 (fun gh s3 t wy => ∃ (j q : Nat), j ≤ 2 ∧ gh = 2 - j ∧ t = .int .i64 j ∧ s3 = .int .i64 q ∧ Hid (q = sumM Ls j) ∧ W = wy)
 case atStart => exact ⟨0, 0, by omega, rfl, rfl, rfl, rfl, rfl⟩
 case round =>
  obtain ⟨j, q, hj, rfl, rfl, rfl, hq, rfl⟩ := hrel
  by_cases hlt : j < 2
  ·have hjI : (j : Int) < 2 := by omega
   have hwj : IntKind.i64.wrap ((j : Int) + 1) = (j : Int) + 1 := IntWalk.i64_in _ (by omega)
   have c1 := HC.out j hlt
   have hbj := HB.out j
   have hq3 : q ≤ 20000 := by
    have := HSL.out j
    rw [hq.out]; omega
   obtain ⟨ao, cap, hu, hcap⟩ : ∃ ao cap, us j = .slice ao (Ls j).length cap ∧ True := by
    obtain ⟨ao, cap, h1, _⟩ := (HR.out j hlt).1
    exact ⟨ao, cap, h1, trivial⟩
   rw [hu] at c1
   obtain ⟨m, hm⟩ : ∃ m, (Ls j).length = m := ⟨_, rfl⟩
   have HQ : Hid (q + m = sumM Ls (j + 1)) := by
    show q + m = sumM Ls j + (Ls j).length
    rw [hq.out, hm]
   rw [hm] at c1 hbj
   have hwq : IntKind.i64.wrap ((q : Int) + (m : Int)) = ((q + m : Nat) : Int) := (IntWalk.i64_in _ (by omega)).trans (by omega)
   have hnn : ¬ ((q + m : Nat) : Int) < 0 := by omega
   clear hq hm hu
   obtain ⟨q2, hq2⟩ : ∃ q2, q + m = q2 := ⟨_, rfl⟩
   rw [hq2] at HQ hwq hnn
   go_wp2_with fail
   go_roundg (2 - (j + 1))
   case measure => omega
   case rel => exact ⟨j + 1, q2, by omega, rfl, by go_num, rfl, HQ, rfl⟩
  ·have hj3 : j = 2 := by omega
   have hjI : ¬ (j : Int) < 2 := by omega
   have HG := Lib.hid (mgrow_spec W (n := q) (by have := HSL.out 2; rw [hq.out, hj3]; omega))
   clear hq
   go_wp2_with fail
   refine HG.out.mono ?_
   rintro e w2 ⟨v2, rfl, hv2⟩
   clear HG
   go_wp2_with fail
   go_loopg [6, 27] 2 (fun gh s6 t wy => ∃ (i : Nat) (v : Value), i ≤ 2 ∧ gh = 2 - i ∧ t = .int .i64 i ∧ v = s6 ∧ Hid (OwnK stmE W.heap.size wy v (catM Ls i) ∧ KF W wy))
   case atStart => exact ⟨0, v2, by omega, rfl, rfl, rfl, hv2.out⟩
   case round =>
    clear hv2
    obtain ⟨i, v, hi, rfl, rfl, rfl, HI⟩ := hrel
    by_cases hlt2 : i < 2
    ·have hiI : (i : Int) < 2 := by omega
     have hwi : IntKind.i64.wrap ((i : Int) + 1) = (i : Int) + 1 := IntWalk.i64_in _ (by omega)
     have c1 := (HI.out.2.cell (p := ⟨ga, i, none⟩) hga (fun x => x)).trans (HC.out i hlt2)
     have HRI : Hid (SrcK stmE wr (us i) (Ls i)) := (HR.out i hlt2).keeps HI.out.2
     have HOW := Lib.hid HI.out.1
     have HKP := Lib.hid HI.out.2
     have HLN : Hid ((catM Ls i).length + (Ls i).length ≤ 100000) := by have := HB.out i; have := HSL.out i; show _ ≤ _; rw [catM_len]; omega
     have HZW : Hid (W.heap.size ≤ wr.heap.size) := HI.out.2.size
     clear HI
     go_wp2_with (at_builtin; refine app_k (E := stmE) rfl _ _ rfl W.heap.size v _ rfl HOW.out _ _ rfl HRI.out HLN.out HZW.out ?_)
     intro v3 w6 ho hk
     have HN : Hid (OwnK stmE W.heap.size w6 v3 (catM Ls (i + 1)) ∧ KF W w6) := ⟨ho, HKP.out.trans_new hk (fun x hx e => by have := own_block HOW.out x e; omega)⟩
     clear HOW HKP HRI HLN HZW ho hk
     go_wp2_with fail
     go_roundg (2 - (i + 1))
     case measure => omega
     case rel => exact ⟨i + 1, v3, by omega, rfl, by go_num, rfl, HN⟩
    ·have hi3 : i = 2 := by omega
     have hiI : ¬ (i : Int) < 2 := by omega
     subst hi3
     go_wp2_with fail
     go_ret
     exact ⟨_, rfl, HI⟩
/-- Of two rows. -/
theorem mconcat_spec {W : World} {ga : Nat} {u0 u1 : Value} {l0 l1 : List Stm} (hga : ga < W.heap.size) (hc0 : W.cell? ⟨ga, 0, none⟩ = some u0) (hc1 : W.cell? ⟨ga, 1, none⟩ = some u1) (h0 : SrcK stmE W u0 l0) (h1 : SrcK stmE W u1 l1) (hb0 : l0.length ≤ 10000) (hb1 : l1.length ≤ 10000) :
 Calls Tryz.prog 80 #[.slice (some ⟨ga, 0, none⟩) 2 2] W fun e W' => ∃ v, e = .returned v ∧ Hid (OwnK stmE W.heap.size W' v (l0 ++ l1) ∧ KF W W') := by
 have q := mconcat_gen (W := W) (ga := ga) (us := fun j => if j = 0 then u0 else u1) (Ls := fun j => if j = 0 then l0 else l1) hga (fun j hj => by
  rcases (show j = 0 ∨ j = 1 by omega) with rfl | rfl
  ·exact hc0
  ·exact hc1) (fun j hj => by
  rcases (show j = 0 ∨ j = 1 by omega) with rfl | rfl
  ·exact h0
  ·exact h1) (fun j => by
  show (if j = 0 then l0 else l1).length ≤ _
  split <;> assumption)
 exact q
end
end Go.Proofs.YtckikkkdabpjkaaGreat
