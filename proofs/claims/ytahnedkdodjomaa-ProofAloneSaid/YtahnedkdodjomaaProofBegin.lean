/-
  Nothing is known.
-/
import Derived.Test.YtahnedkdodjomaaProofNeed
set_option linter.unusedVariables false
set_option linter.unusedSimpArgs false
set_option linter.unnecessarySimpa false
namespace Go.Proofs.Ytahnedkdodjomaa
open Go.ChangeShapes Go.WideShapes Go.ChangeAt Go.RowKit Go.Deep SetPlain
def BeginPost (P K : Nat) (ao : Option Addr) (n cap : Nat) (rs : List Rl) (W : World) (e : Ending) (W' : World) : Prop :=
  ∃ kb mb, e = .returned (.pointer (some ⟨kb, 0, none⟩)) ∧ Hid (KnE W.heap.size W W' kb P K ao n cap mb (.slice none 0 0) [] rs)
set_option maxRecDepth 100000
set_option maxHeartbeats 1600000
theorem begin_spec {W : World} {P K : Nat} {ao : Option Addr} {n cap : Nat} {rs : List Rl} (hR : RuleRow W ao rs) (hrs : rs.length = n) (hcap : n ≤ cap) (hP : P ≤ 64) (hK : K ≤ 64) :
    Calls Try.prog 19 #[.int .i64 P, .int .i64 K, .slice ao n cap] W (BeginPost P K ao n cap rs W) := by
  have HP : Hid (∀ W', W' = (W.alloc (.map #[] 0)).alloc (.cells #[.int .i64 P, .int .i64 K, .slice ao n cap, .map (some W.heap.size), .slice none 0 0] 55) → BeginPost P K ao n cap rs W (.returned (.pointer (some ⟨W.heap.size + 1, 0, none⟩))) W') := by
    rintro W' rfl
    have k1 : Keeps (fun _ => False) W (W.alloc (.map #[] 0)) := (Keeps.refl _ _).alloc _
    have k2 : Keeps (fun _ => False) (W.alloc (.map #[] 0)) ((W.alloc (.map #[] 0)).alloc (.cells #[.int .i64 P, .int .i64 K, .slice ao n cap, .map (some W.heap.size), .slice none 0 0] 55)) := (Keeps.refl _ _).alloc _
    have hb := (k1.trans k2).below (Nat.le_refl _) (fun _ _ x => x)
    have hs : (W.alloc (.map #[] 0)).heap.size = W.heap.size + 1 := by simp
    refine ⟨W.heap.size + 1, W.heap.size, rfl, ⟨⟨?_, (KnMap.zero W).keeps k2 (fun x => x), TailRow.nil _ _ _⟩, hb, hR.keeps hb (fun _ _ _ h => h), ?_, ?_, Nat.le_refl _, hrs, hcap, hP, hK, .refl _⟩⟩
    · rw [← hs]; exact (MapKept.heap_alloc _ _).1
    · rintro x (rfl | rfl | h)
      · omega
      · omega
      · cases h
    · intro h0 b off he
      obtain ⟨b1, off1, he1, hlt, _⟩ := hR h0
      rw [he] at he1; cases he1
      exact hlt
  clear hR
  go_enter Try.func19, Try.ntmps19
  have hrun : (Instr.makeMap 53 none).run Try.prog W = .ok (.map (some W.heap.size)) (W.alloc (.map #[] 0)) := rfl
  go_wp2_with fail
  go_ret
  exact HP.out _ rfl
end Go.Proofs.Ytahnedkdodjomaa
