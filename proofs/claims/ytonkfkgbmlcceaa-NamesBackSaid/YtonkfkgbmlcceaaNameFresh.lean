/-
  Fresh texts: the program's; two rows of the same texts.
-/
import Derived.Test.YtonkfkgbmlcceaaNameFreshPlain
import Derived.Test.YtonkfkgbmlcceaaNameFind
set_option linter.unusedVariables false
set_option linter.unusedSimpArgs false
set_option linter.unnecessarySimpa false
namespace Go.Proofs.Ytonkfkgbmlcceaa
open Go.ChangeShapes Go.WideShapes Go.ChangeAt Go.RowKit Go.Deep
set_option maxRecDepth 100000
set_option maxHeartbeats 3200000
theorem names_fresh {W : World} {p : Nat} {L : List Str} (h : Tab W p L) (hr : L.Pairwise (· < ·)) (hn : L.length ≤ 1000) (n : Int) (hn0 : -9223372036854775808 ≤ n) (hn1 : n ≤ 9223372036854775807) :
    Calls Try.prog 20 #[.pointer (some ⟨p, 0, none⟩), .int .i64 n] W fun e W' => ∃ v, e = .returned v ∧ Hid (Keeps (fun _ => False) W W' ∧ ReadsS W' v (freshL L n)) := by
  obtain ⟨i0, hi0, hz0, hz1, hz2⟩ := info_parts sinfo
  obtain ⟨m, hm⟩ : ∃ m, min n 1000 = m := ⟨_, rfl⟩
  have HT := Lib.hid h
  have HFI : Hid (∀ (W' : World) (s : Str), Keeps (fun _ => False) W W' → Calls Try.prog 15 #[.pointer (some ⟨p, 0, none⟩), .string ⟨s.toArray⟩] W' fun e w' => e = .returned (.int .i64 (atL L s)) ∧ W' = w') := fun W' s hk => names_find (h.keeps hk) hr (by omega) s
  have HDC : Hid (∀ (k : Nat) (W' : World), k ≤ 1000000 → Calls Try.prog 31 #[.int .i64 (k : Int)] W' fun e w' => e = .returned (.string ⟨(decL k).toArray⟩) ∧ W' = w') := fun k W' hk => dec_spec (k + 1) k (by omega) hk W'
  have hm1000 : m ≤ 1000 := by omega
  have HM := Lib.hid hm
  clear h
  go_enter Try.func20, Try.ntmps20
  go_wp2_with fail
  go_loopg [4, 5] (m.toNat + L.length + 1) (fun g ov t wy => ∃ K : Nat, t = .int .i64 ((K : Int) + 1) ∧ (freshUp L K).length ≤ m.toNat ∧ g = m.toNat + L.length + 1 - K ∧ Hid (Keeps (fun _ => False) W wy ∧ OwnS W.heap.size wy ov (freshUp L K)))
  case atStart => exact ⟨0, rfl, Nat.zero_le _, rfl, Keeps.refl _ _, World.ownsRow_nil _ _ _ _⟩
  case round =>
    obtain ⟨K, rfl, hlen, rfl, HI⟩ := hrel
    have hcnt := fresh_count L K
    obtain ⟨ln, hln⟩ : ∃ ln, (freshUp L K).length = ln := ⟨_, rfl⟩
    obtain ⟨ao, cap, hv, hcp, _⟩ := own_form HI.out.2
    rw [hln] at hv hcnt hlen
    have HLN := Lib.hid hln
    have HVV := Lib.hid hv
    have HI2 : Hid (OwnS W.heap.size wr (.slice ao ln cap) (freshUp L K)) := by rw [← hv]; exact HI.out.2
    have HK := Lib.hid HI.out.1
    subst hv
    clear hln hcp HI
    by_cases hlt : (ln : Int) < m
    · have hltI : (ln : Int) < m := hlt
      have hk1 : K + 1 ≤ 1000000 := by omega
      have hwk : IntKind.i64.wrap ((K : Int) + 1 + 1) = (K : Int) + 1 + 1 := IntWalk.i64_in _ (by omega)
      have hcK : ((K : Int) + 1) = ((K + 1 : Nat) : Int) := by omega
      have HD1 : Hid (Calls Try.prog 31 #[.int .i64 ((K : Int) + 1)] wr fun e w' => e = .returned (.string ⟨(decL (K + 1)).toArray⟩) ∧ wr = w') := by rw [hcK]; exact HDC.out (K + 1) wr hk1
      have hdl := decL_len (K + 2) (K + 1) (by omega)
      have hadd : (Op.stringOp .add ⟨#[88]⟩ ⟨(decL (K + 1)).toArray⟩).run Try.prog wr = .ok (.string ⟨(xL (K + 1)).toArray⟩) wr := run_string_add_lists wr [88] _ (by simp) (by omega)
      have HF1 := Lib.hid (HFI.out wr (xL (K + 1)) HK.out)
      have HFS := Lib.hid (freshUp_succ L K)
      clear hcK hdl hcnt
      by_cases hin : xL (K + 1) ∈ L
      · have HA := Lib.hid (at_in hin)
        have HN : Hid (freshUp L (K + 1) = freshUp L K) := by show _ = _; rw [HFS.out, if_pos hin]
        generalize hdg : decL (K + 1) = dl at *
        generalize hxg : xL (K + 1) = xl at *
        obtain ⟨ix, hix⟩ : ∃ ix, L.idxOf xl = ix := ⟨_, rfl⟩
        have hAL : atL L xl = (ix : Int) := by rw [HA.out, hix]
        have hixI : ¬ (ix : Int) < 0 := by omega
        clear hdg hxg HA HFS hin hix
        rw [hAL] at HF1
        clear hAL
        go_wp2_with fail
        refine HD1.out.mono ?_
        rintro e w' ⟨rfl, rfl⟩
        go_wp2_with fail
        refine HF1.out.mono ?_
        rintro e w' ⟨rfl, rfl⟩
        go_wp2_with fail
        go_roundg (m.toNat + L.length + 1 - (K + 1))
        case measure => have := fresh_count L K; rw [HLN.out] at this; omega
        case rel => exact ⟨K + 1, by go_num, by rw [HN.out, HLN.out]; omega, rfl, by rw [HN.out]; exact ⟨HK.out, HI2.out⟩⟩
      · have HN : Hid (freshUp L (K + 1) = freshUp L K ++ [xL (K + 1)]) := by show _ = _; rw [HFS.out, if_neg hin]
        have hAL := at_out hin
        generalize hdg : decL (K + 1) = dl at *
        generalize hxg : xL (K + 1) = xl at *
        clear hdg hxg HFS hin
        rw [hAL] at HF1
        clear hAL
        have HOW : Hid (wr.ownsRow W.heap.size 9 1 (.slice ao ln cap) (freshUp L K).length (sCells (freshUp L K))) := HI2.out
        rw [HLN.out] at HOW
        have hsz := HK.out.size
        go_wp2_with fail
        refine HD1.out.mono ?_
        rintro e w' ⟨rfl, rfl⟩
        go_wp2_with fail
        refine HF1.out.mono ?_
        rintro e w' ⟨rfl, rfl⟩
        go_wp2_with (at_builtin; refine wpList_append_own _ rfl _ _ 24 rfl W.heap.size 9 i0 _ 1 16 Try.underlying24 hi0 hz0 hz1 hz2 rfl (by decide) _ _ _ rfl (HOW.out.alloc _) ⟨wr.heap.size, 0, none⟩ 1 1 [.string ⟨xl.toArray⟩] rfl rfl (cells_new wr _ _) (by intro u hu; simp only [List.mem_cons, List.not_mem_nil, or_false] at hu; subst hu; rfl) (by unfold maxLen; omega) (by omega) (by simp; omega) ?_)
        intro v2 w6 hown2 hgrow _
        have HNN : Hid (Keeps (fun _ => False) W w6 ∧ OwnS W.heap.size w6 v2 (freshUp L (K + 1))) := by
          refine ⟨?_, ?_⟩
          · exact (HK.out.trans ((Keeps.refl (fun _ => False) wr).alloc _)).trans_new (keeps_grown hgrow) (fun q hq e => by have := own_block HOW.out q e; omega)
          · show w6.ownsRow _ _ _ _ (freshUp L (K + 1)).length (sCells (freshUp L (K + 1)))
            rw [HN.out, sCells_snoc, List.length_append, HLN.out]
            exact hown2
        clear hown2 hgrow HOW HK HI2
        go_wp2_with fail
        go_roundg (m.toNat + L.length + 1 - (K + 1))
        case measure => have := fresh_count L K; rw [HLN.out] at this; omega
        case rel => exact ⟨K + 1, by go_num, by rw [HN.out, List.length_append, HLN.out]; simp only [List.length_cons, List.length_nil]; omega, rfl, HNN⟩
    · have hltI : ¬ (ln : Int) < m := hlt
      have HE : Hid (Keeps (fun _ => False) W wr ∧ ReadsS wr (.slice ao ln cap) (freshL L n)) := by
        have e : freshUp L K = freshL L n := fresh_done (by rw [HLN.out, show min n 1000 = m from HM.out]; omega)
        rw [← e]
        exact ⟨HK.out, HI2.out.reads⟩
      clear HI2 HK
      go_wp2_with fail
      go_ret
      exact ⟨_, rfl, HE⟩
/-- The document's: the very same texts? -/
def sameS (a b : List Str) : Bool := decide (a = b)
theorem ref_same {w : World} {u v : Value} {a b : List Str} (hu : ReadsS w u a) (hv : ReadsS w v b) (ha : a.length ≤ 1000000) (hab : a = b) :
    Calls Try.prog 17 #[u, v] w fun e w' => e = .returned (.bool true) ∧ ∃ nq, w' = w.drewN nq := by
  subst hab
  obtain ⟨au, cu, rfl, hcu0, hru⟩ := hu
  obtain ⟨av, cv, rfl, hcv0, hrv⟩ := hv
  obtain ⟨n, hn⟩ : ∃ n, a.length = n := ⟨_, rfl⟩
  rw [hn] at hcu0 hcv0 hru hrv ha ⊢
  have HU := Lib.hid hru; have HV := Lib.hid hrv; have HN := Lib.hid hn
  clear hru hrv hn
  go_enter Try.func17, Try.ntmps17
  go_wp2_with fail
  go_loopg [13] n (fun g s wr => ∃ k nq : Nat, k ≤ n ∧ g = n - k ∧ s = .int .i64 k ∧ wr = w.drewN nq)
  case atStart => exact ⟨0, 0, Nat.zero_le _, rfl, rfl, rfl⟩
  case round =>
    obtain ⟨k, nq, hk, rfl, rfl, rfl⟩ := hrel
    by_cases hlt : k < n
    · obtain ⟨gu, ou, rfl, hgu, hcu⟩ := HU.out (by omega)
      obtain ⟨gv, ov, rfl, hgv, hcv⟩ := HV.out (by omega)
      obtain ⟨x, hx⟩ : ∃ x, a[k]? = some x := ⟨_, List.getElem?_eq_getElem (by rw [HN.out]; exact hlt)⟩
      have cu1 : w.cell? ⟨gu, ou + k, none⟩ = some (.string ⟨x.toArray⟩) := hcu k x hx
      have cv1 : w.cell? ⟨gv, ov + k, none⟩ = some (.string ⟨x.toArray⟩) := hcv k x hx
      have hkI : (k : Int) < (n : Int) := by omega
      have hku : k < cu := by omega
      have hkv : k < cv := by omega
      clear hcu hcv hx
      go_wp2_with fail
      go_quiet (fail)
      go_wp2_with fail
      go_roundg (n - (k + 1))
      case measure => omega
      case rel => exact ⟨k + 1, _, by omega, rfl, by go_num, rfl⟩
    · obtain rfl : k = n := by omega
      have hkI : ¬ (k : Int) < (k : Int) := by omega
      go_wp2_with fail
      go_ret
      exact ⟨rfl, _, rfl⟩
end Go.Proofs.Ytonkfkgbmlcceaa
