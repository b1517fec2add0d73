/-
  The document's proofs: has a step that role and principal?
-/
import Derived.Test.YtahnedkdodjomaaProofWhy
set_option linter.unusedVariables false
set_option linter.unusedSimpArgs false
set_option linter.unnecessarySimpa false
namespace Go.Proofs.Ytahnedkdodjomaa
open Go.ChangeShapes Go.WideShapes Go.ChangeAt Go.RowKit Go.Deep SetPlain
/-- A slice of steps in memory. -/
def StRow (w : World) (so : Option Addr) (l : List Sp) : Prop :=
  0 < l.length → ∃ b off, so = some ⟨b, off, none⟩ ∧ b < w.heap.size ∧ ∀ (i : Nat) (s : Sp), l[i]? = some s →
    w.cell? ⟨b, off + i * 4, none⟩ = some (.int .i64 s.rule) ∧ w.cell? ⟨b, off + i * 4 + 1, none⟩ = some (.int .i64 s.role) ∧ w.cell? ⟨b, off + i * 4 + 2, none⟩ = some (.int .i64 s.who) ∧ w.cell? ⟨b, off + i * 4 + 3, none⟩ = some (.int .i64 s.mid)
theorem StRow.keeps {w w' : World} {so : Option Addr} {l : List Sp} (h : StRow w so l) (hk : Keeps (fun _ => False) w w') : StRow w' so l := fun h0 => by
  obtain ⟨b, off, rfl, hlt, hc⟩ := h h0
  have e : ∀ j, w'.cell? ⟨b, j, none⟩ = w.cell? ⟨b, j, none⟩ := fun j => hk.cell (p := ⟨b, j, none⟩) hlt (fun x => x)
  refine ⟨b, off, rfl, Nat.lt_of_lt_of_le hlt hk.size, fun i s hs => ?_⟩
  obtain ⟨c0, c1, c2, c3⟩ := hc i s hs
  exact ⟨(e _).trans c0, (e _).trans c1, (e _).trans c2, (e _).trans c3⟩
theorem StRow.take {w : World} {so : Option Addr} {l : List Sp} (h : StRow w so l) (j : Nat) : StRow w so (l.take j) := fun h0 => by
  rw [List.length_take] at h0
  obtain ⟨b, off, rfl, hlt, hc⟩ := h (by omega)
  refine ⟨b, off, rfl, hlt, fun i s hs => hc i s ?_⟩
  rw [List.getElem?_take] at hs
  split at hs
  · exact hs
  · cases hs
theorem StRow.of_tail {w : World} {v : Value} {l : List Sp} (h : TailRow w 30 4 v l.length (spCells l)) : ∃ so cap, v = .slice so l.length cap ∧ l.length ≤ cap ∧ cap ≤ maxLen ∧ StRow w so l := by
  obtain ⟨so, cap, hv, hle, hmx, _, hc⟩ := h.form
  refine ⟨so, cap, hv, hle, hmx, fun h0 => ?_⟩
  obtain ⟨g, k, he, hlt, hcc⟩ := hc h0
  refine ⟨g, k, he, hlt, fun i s hs => ?_⟩
  have hg := fun j u hu => spCells_get l i s hs j u hu
  exact ⟨hcc _ _ (hg 0 _ rfl), hcc _ _ (hg 1 _ rfl), hcc _ _ (hg 2 _ rfl), hcc _ _ (hg 3 _ rfl)⟩
set_option maxRecDepth 100000
set_option maxHeartbeats 1600000
theorem has9_spec {W : World} {so : Option Addr} {l : List Sp} (hR : StRow W so l) {cap n : Nat} (hn : l.length = n) (hcap : n ≤ cap) (hlen : n ≤ 1000000) (a b : Int) :
    Calls Try.prog 15 #[.slice so n cap, .int .i64 a, .int .i64 b] W (fun e W' => e = .returned (.bool (atF l a b).isSome) ∧ Below W.heap.size W W') := by
  have HR := Lib.hid hR
  have HY : Hid (∀ (j : Nat) (s : Sp), l[j]? = some s → s.role = a → s.who = b → (atF l a b).isSome = true) := fun j s hs h1 h2 => atF_isSome (List.mem_of_getElem? hs) h1 h2
  have HN : Hid ((∀ (j : Nat) (s : Sp), j < n → l[j]? = some s → ¬ (s.role = a ∧ s.who = b)) → (atF l a b).isSome = false) := fun h => by
    cases hc : atF l a b with
    | none => rfl
    | some j =>
      obtain ⟨s, hs, h2⟩ := atF_some hc
      have := atF_lt hc
      exact absurd h2 (h j s (by omega) hs)
  clear hR
  generalize (atF l a b).isSome = res at HY HN ⊢
  go_enter Try.func15, Try.ntmps15
  go_wp2_with fail
  go_loopg [11] n (fun g t wy => ∃ (j : Nat), j ≤ n ∧ g = n - j ∧ t = .int .i64 j ∧ Hid (Below W.heap.size W wy) ∧ Hid (∀ (i : Nat) (s : Sp), i < j → l[i]? = some s → ¬ (s.role = a ∧ s.who = b)))
  case atStart => exact ⟨0, Nat.zero_le _, rfl, rfl, Below.refl _ _, fun _ _ h => absurd h (Nat.not_lt_zero _)⟩
  case round =>
    obtain ⟨j, hj, rfl, rfl, HB, HI⟩ := hrel
    by_cases hlt : j < n
    · have hjI : (j : Int) < (n : Int) := by omega
      obtain ⟨s, hs⟩ : ∃ s, l[j]? = some s := ⟨_, List.getElem?_eq_getElem (by omega)⟩
      obtain ⟨bb, off, rfl, hbb, hc⟩ := (HR.out.keeps (Keeps.of_below HB.out (Nat.le_refl _))) (by omega)
      obtain ⟨c0, c1, c2, c3⟩ := hc j s hs
      have HI2 : Hid (¬ (s.role = a ∧ s.who = b) → ∀ (i : Nat) (s : Sp), i < j + 1 → l[i]? = some s → ¬ (s.role = a ∧ s.who = b)) := fun hno i s' hi hs' => by
        rcases Nat.lt_or_ge i j with h | h
        · exact HI.out i s' h hs'
        · obtain rfl : i = j := by omega
          rw [hs] at hs'; cases hs'
          exact hno
      have HY2 : Hid (s.role = a → s.who = b → res = true) := fun h1 h2 => HY.out j s hs h1 h2
      have HBX : Hid (∀ o, Below W.heap.size W (wr.alloc o)) := fun o => HB.out.trans (((Keeps.refl (fun _ => False) wr).alloc o).below HB.out.size (fun _ _ x => x))
      obtain ⟨rule, role, who, mid⟩ := s
      simp only [] at c0 c1 c2 c3 HI2 HY2
      clear hc hs HI
      by_cases h1 : role = a
      · by_cases h2 : who = b
        · have hr := HY2.out h1 h2
          subst h1 h2 hr
          clear HI2 HY2 HN HY
          go_wp2_with fail
          go_ret
          exact ⟨rfl, HBX.out _⟩
        · have HI3 := Lib.hid (HI2.out (fun h => h2 h.2))
          subst h1
          clear HI2 HY2
          go_wp2_with fail
          go_roundg (n - (j + 1))
          case measure => omega
          case rel => exact ⟨j + 1, by omega, rfl, by go_num, HBX.out _, HI3.out⟩
      · have HI3 := Lib.hid (HI2.out (fun h => h1 h.1))
        clear HI2 HY2
        go_wp2_with fail
        go_roundg (n - (j + 1))
        case measure => omega
        case rel => exact ⟨j + 1, by omega, rfl, by go_num, HBX.out _, HI3.out⟩
    · have hjE : j = n := by omega
      have hjI : ¬ (j : Int) < (n : Int) := by omega
      rw [hjE] at HI
      have hr := HN.out HI.out
      subst hr
      clear HN HY HI
      go_wp2_with fail
      go_ret
      exact ⟨rfl, HB.out⟩
end Go.Proofs.Ytahnedkdodjomaa
