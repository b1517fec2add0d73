/-
 A number's decimal digits: the program's and the document's.
-/
import Derived.Test.YtededjfjbkcepaaGreatMD
import Derived.Laws.IdiomStrings
set_option linter.unusedVariables false
set_option linter.unusedSimpArgs false
set_option linter.unnecessarySimpa false
namespace Go.Proofs.YtededjfjbkcepaaGreat
open Go.ChangeShapes Go.WideShapes Go.ChangeAt Go.RowKit Go.Deep
set_option maxRecDepth 100000
set_option maxHeartbeats 3200000
end Go.Proofs.YtededjfjbkcepaaGreat
/-
 Fresh texts: X1, X2 and so on, but for those that a row has. No program in sight.
-/
set_option linter.unusedVariables false
set_option linter.unusedSimpArgs false
namespace Go.Proofs.YtededjfjbkcepaaGreat
end Go.Proofs.YtededjfjbkcepaaGreat
/-
 Where a text is in a table: the library's search in halves, and Find.
-/
set_option linter.unusedVariables false
set_option linter.unusedSimpArgs false
set_option linter.unnecessarySimpa false
namespace Go.Proofs.YtededjfjbkcepaaGreat
open Go.ChangeShapes Go.WideShapes Go.ChangeAt Go.RowKit Go.Deep
set_option maxRecDepth 100000
set_option maxHeartbeats 3200000
end Go.Proofs.YtededjfjbkcepaaGreat
/-
 Fresh texts: the program's; two rows of the same texts.
-/
set_option linter.unusedVariables false
set_option linter.unusedSimpArgs false
set_option linter.unnecessarySimpa false
namespace Go.Proofs.YtededjfjbkcepaaGreat
open Go.ChangeShapes Go.WideShapes Go.ChangeAt Go.RowKit Go.Deep
set_option maxRecDepth 100000
set_option maxHeartbeats 3200000
theorem ref_same {w : World} {u v : Value} {a b : List Str} (hu : ReadsS w u a) (hv : ReadsS w v b) (ha : a.length ≤ 1000000) (hab : a = b) :
 Calls Tryz.prog 22 #[u, v] w fun e w' => e = .returned (.bool true) ∧ ∃ nq, w' = w.drewN nq := by
 subst hab
 obtain ⟨au, cu, rfl, hcu0, hru⟩ := hu
 obtain ⟨av, cv, rfl, hcv0, hrv⟩ := hv
 obtain ⟨n, hn⟩ : ∃ n, a.length = n := ⟨_, rfl⟩
 rw [hn] at hcu0 hcv0 hru hrv ha ⊢
 have HU := Lib.hid hru; have HV := Lib.hid hrv; have HN := Lib.hid hn
 clear hru hrv hn
 go_enter Tryz.func22, Tryz.ntmps22
 go_wp2_with fail
 go_loopg [13] n (fun g s wr => ∃ k nq : Nat, k ≤ n ∧ g = n - k ∧ s = .int .i64 k ∧ wr = w.drewN nq)
 case atStart => exact ⟨0, 0, Nat.zero_le _, rfl, rfl, rfl⟩
 case round =>
  obtain ⟨k, nq, hk, rfl, rfl, rfl⟩ := hrel
  by_cases hlt : k < n
  ·obtain ⟨gu, ou, rfl, hgu, hcu⟩ := HU.out (by omega)
   obtain ⟨gv, ov, rfl, hgv, hcv⟩ := HV.out (by omega)
   obtain ⟨x, hx⟩ : ∃ x, a[k]? = some x := ⟨_, List.getElem?_eq_getElem (by rw [HN.out]; exact hlt)⟩
   have cu1 : w.cell? ⟨gu, ou + k, none⟩ = some (.string ⟨x.toArray⟩) := hcu k x hx
   have cv1 : w.cell? ⟨gv, ov + k, none⟩ = some (.string ⟨x.toArray⟩) := hcv k x hx
   have hkI : (k : Int) < (n : Int) := by omega
   have hku : k < cu := by omega
   have hkv : k < cv := by omega
   clear hcu hcv hx
   go_wp2_with fail
   go_quiet (fail)
   go_wp2_with fail
   go_roundg (n - (k + 1))
   case measure => omega
   case rel => exact ⟨k + 1, _, by omega, rfl, by go_num, rfl⟩
  ·obtain rfl : k = n := by omega
   have hkI : ¬ (k : Int) < (k : Int) := by omega
   go_wp2_with fail
   go_ret
   exact ⟨rfl, _, rfl⟩
end Go.Proofs.YtededjfjbkcepaaGreat
