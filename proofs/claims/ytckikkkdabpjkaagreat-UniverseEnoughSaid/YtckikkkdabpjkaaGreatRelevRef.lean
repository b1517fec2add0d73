/-
 The document's: what counts, what is followed, how many are told apart, the very same.
-/
import Derived.Test.YtckikkkdabpjkaaGreatKitSq
import Derived.Test.YtckikkkdabpjkaaGreatRelevOf
import Derived.Test.YtckikkkdabpjkaaGreatPolAll
import Derived.Test.YtckikkkdabpjkaaGreatMI
import Derived.Test.YtckikkkdabpjkaaGreatRowSame
set_option linter.unusedVariables false
set_option linter.unusedSimpArgs false
set_option linter.unnecessarySimpa false
namespace Go.Proofs.YtckikkkdabpjkaaGreat
open Go.ChangeShapes Go.WideShapes Go.ChangeAt Go.RowKit Go.Deep
set_option maxRecDepth 100000
set_option maxHeartbeats 3200000
/-- How many new principals are told apart. -/
def freshN (lk : Bool) (n : Nat) : Int := if lk then (if 4 < n then 0 else (2 : Int) ^ n) else 1
theorem fresh_spec {W : World} {rv lv pv fv ov : Value} {lk : Bool} {go : Option Addr} {gn gc : Nat} (hn : gn ≤ 60) : Calls Tryz.prog 65 #[.agg #[rv, lv, pv, fv, ov, .slice go gn gc, .bool lk]] W fun e W' => e = .returned (.int .i64 (freshN lk gn)) ∧ Hid (KF W W') := by
 have halWA := (MapKept.heap_alloc W (.cells #[rv, lv, pv, fv, ov, .slice go gn gc, .bool lk] 52)).1
 obtain ⟨WA, hWA⟩ : ∃ q, W.alloc (.cells #[rv, lv, pv, fv, ov, .slice go gn gc, .bool lk] 52) = q := ⟨_, rfl⟩
 have hkWA : KF W WA := by rw [← hWA]; exact (Keeps.refl _ _).alloc _
 rw [hWA] at halWA
 obtain ⟨bWA, hbWA⟩ : ∃ q, W.heap.size = q := ⟨_, rfl⟩
 rw [hbWA] at halWA
 have HK := Lib.hid hkWA
 obtain ⟨c0, f0, c1, f1, c2, f2, c3, f3, c4, f4, c5, f5, c6, f6⟩ := cf7 halWA
 clear halWA hkWA f0 f1 f2 f3 f4 f5 f6 c0 c1 c2 c3 c4
 go_enter Tryz.func65, Tryz.ntmps65
 go_upto_region 1 with fail
 (try simp only [hWA, hbWA])
 clear hWA hbWA
 cases lk
 case false =>
  go_wp2_with fail
  go_ret
  exact ⟨rfl, HK⟩
 case true =>
  by_cases h4 : 4 < gn
  case pos =>
   have h4I : (4 : Int) < (gn : Int) := by omega
   have HF : Hid (freshN true gn = 0) := by show (if 4 < gn then _ else _) = _; rw [if_pos h4]
   go_wp2_with fail
   go_ret
   exact ⟨by rw [HF.out]; rfl, HK⟩
  case neg =>
   have h4I : ¬ (4 : Int) < (gn : Int) := by omega
   have h5 : gn = 0 ∨ gn = 1 ∨ gn = 2 ∨ gn = 3 ∨ gn = 4 := by omega
   clear hn
   rcases h5 with rfl | rfl | rfl | rfl | rfl
   all_goals
    clear h4 h4I
    go_wp2_with fail
    go_ret
    exact ⟨rfl, HK⟩
/-- What a view says, read. -/
structure VwR (W : World) (rv lv pv fv ov gv : Value) (R : List Rol) (Lk P : List Str) (Fx Ls : List Stm) (G : List Rol) : Prop where
 r : RdK rolE W rv R
 l : ReadsS W lv Lk
 p : ReadsS W pv P
 f : RdK stmE W fv Fx
 o : RdK stmE W ov Ls
 g : RdK rolE W gv G
theorem VwR.keeps {W W' : World} {rv lv pv fv ov gv : Value} {R : List Rol} {Lk P : List Str} {Fx Ls : List Stm} {G : List Rol} (h : VwR W rv lv pv fv ov gv R Lk P Fx Ls G) (hk : KF W W') : VwR W' rv lv pv fv ov gv R Lk P Fx Ls G := ⟨h.r.keeps hk, h.l.keeps hk, h.p.keeps hk, h.f.keeps hk, h.o.keeps hk, h.g.keeps hk⟩
end Go.Proofs.YtckikkkdabpjkaaGreat
