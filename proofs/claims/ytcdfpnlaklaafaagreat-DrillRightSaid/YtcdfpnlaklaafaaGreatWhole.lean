/-
  The program's sorts: of statements (syn.Sort), of roles (policy.SortRoles).
-/
import Derived.Test.YtcdfpnlaklaafaaGreatSrtFun
import Derived.Test.YtcdfpnlaklaafaaGreatCompM
import Derived.Test.YtcdfpnlaklaafaaGreatCompR
set_option linter.unusedVariables false
set_option linter.unusedSimpArgs false
set_option linter.unnecessarySimpa false
namespace Go.Proofs.YtcdfpnlaklaafaaGreat
open Go.ChangeShapes Go.WideShapes Go.ChangeAt Go.RowKit Go.Deep
set_option maxRecDepth 100000
set_option maxHeartbeats 3200000
theorem mrgO_eq {α : Type} {lt : α → α → Prop} [DecidableRel lt] [DecidableEq α] (o : LO lt) (l : List α) : sortO lt (mrgO lt l) = sortO lt l :=
  sortO_eq o (sortO_rises o _) (fun x => by rw [sortO_mem, mrgO_mem])
theorem ssort_all {W : World} {v : Value} {l : List Stm} (h : SrcK stmE W v l) (hl : l.length ≤ 10000) :
    Calls Tryz.prog 52 #[v] W fun e W' => ∃ v', e = .returned v' ∧ Hid (Keeps (fun _ => False) W W' ∧ SrcK stmE W' v' (sortO stmLt l) ∧ NewAt W W' v') := by
  have HC := Lib.hid (cloneM_spec h hl)
  clear h
  go_enter Tryz.func52, Tryz.ntmps52
  go_wp2_with fail
  refine HC.out.mono ?_
  rintro e w1 ⟨v1, rfl, h1⟩
  rcases h1.out.2.form with ⟨rfl, rfl⟩ | ⟨g, cap, cur, rfl, hgb, hh, hle, _, _, ht⟩
  · have HS := Lib.hid (srtM_none w1)
    have HP := Lib.hid (compM_none w1)
    have HE : Hid (Keeps (fun _ => False) W w1 ∧ SrcK stmE w1 (.slice none 0 0) (sortO stmLt []) ∧ NewAt W w1 (.slice none 0 0)) := ⟨h1.out.1, (ownK_nil stmE 0 w1).src, fun k hk => by simp [Value.ownBlock] at hk⟩
    clear h1 HC
    go_wp2_with fail
    refine HS.out.mono ?_
    rintro e w2 ⟨rfl, rfl⟩
    go_wp2_with fail
    refine HP.out.mono ?_
    rintro e w3 ⟨rfl, rfl⟩
    go_wp2_with fail
    go_ret
    exact ⟨_, rfl, HE⟩
  · have HS := Lib.hid (srtM_spec (cap := cap) hh ht (by omega))
    have HK1 : Hid (Keeps (fun _ => False) W w1 ∧ W.heap.size ≤ g ∧ g < w1.heap.size) := ⟨h1.out.1, hgb, lt_of_heap hh⟩
    have hnl := mrgO_len (lt := stmLt) l
    have HCP : Hid (∀ w2, HoK stmE w2 g 0 (mrgO stmLt l) → Calls Tryz.prog 67 #[.slice (some ⟨g, 0, none⟩) l.length cap] w2 fun e W' => ∃ v', e = .returned v' ∧ Hid (Keeps (fun q => q = g) w2 W' ∧ SrcK stmE W' v' (sortO stmLt l) ∧ OfBM g v')) := fun w2 h2 => by
      have q := compM_spec (cap := cap) h2 (by rw [hnl]; exact hle) (by rw [hnl]; exact hl) (mrgO_sorted stmO l)
      rw [mrgO_eq stmO, hnl] at q
      exact q
    obtain ⟨nl, hnn⟩ : ∃ nl, l.length = nl := ⟨_, rfl⟩
    rw [hnn] at HS HCP ⊢
    clear h1 HC hh ht hle hnl hnn hgb hl
    go_wp2_with fail
    refine HS.out.mono ?_
    rintro e w2 ⟨rfl, h2⟩
    have HP := Lib.hid (HCP.out w2 h2.out.2)
    have HK2 : Hid (Keeps (fun _ => False) W w2 ∧ w1.heap.size ≤ w2.heap.size) := ⟨HK1.out.1.trans_new h2.out.1 (fun q hq e => by have := HK1.out.2; omega), h2.out.1.size⟩
    clear HS HCP h2
    go_wp2_with fail
    refine HP.out.mono ?_
    rintro e w3 ⟨v3, rfl, h3⟩
    have HE : Hid (Keeps (fun _ => False) W w3 ∧ SrcK stmE w3 v3 (sortO stmLt l) ∧ NewAt W w3 v3) := ⟨HK2.out.1.trans_new h3.out.1 (fun q hq e => by have := HK1.out.2; omega), h3.out.2.1, fun k hk => by have e := h3.out.2.2 k hk; subst e; exact ⟨HK1.out.2.1, Nat.lt_of_lt_of_le HK1.out.2.2 (Nat.le_trans HK2.out.2 h3.out.1.size)⟩⟩
    clear HP h3 HK2 HK1
    go_wp2_with fail
    go_ret
    exact ⟨_, rfl, HE⟩
theorem rsort_all {W : World} {v : Value} {l : List Rol} (h : SrcK rolE W v l) (hl : l.length ≤ 10000) :
    Calls Tryz.prog 53 #[v] W fun e W' => ∃ v', e = .returned v' ∧ Hid (Keeps (fun _ => False) W W' ∧ SrcK rolE W' v' (sortO rolLt l) ∧ NewAt W W' v') := by
  have HC := Lib.hid (cloneR_spec h hl)
  clear h
  go_enter Tryz.func53, Tryz.ntmps53
  go_wp2_with fail
  refine HC.out.mono ?_
  rintro e w1 ⟨v1, rfl, h1⟩
  rcases h1.out.2.form with ⟨rfl, rfl⟩ | ⟨g, cap, cur, rfl, hgb, hh, hle, _, _, ht⟩
  · have HS := Lib.hid (srtR_none w1)
    have HP := Lib.hid (compR_none w1)
    have HE : Hid (Keeps (fun _ => False) W w1 ∧ SrcK rolE w1 (.slice none 0 0) (sortO rolLt []) ∧ NewAt W w1 (.slice none 0 0)) := ⟨h1.out.1, (ownK_nil rolE 0 w1).src, fun k hk => by simp [Value.ownBlock] at hk⟩
    clear h1 HC
    go_wp2_with fail
    refine HS.out.mono ?_
    rintro e w2 ⟨rfl, rfl⟩
    go_wp2_with fail
    refine HP.out.mono ?_
    rintro e w3 ⟨rfl, rfl⟩
    go_wp2_with fail
    go_ret
    exact ⟨_, rfl, HE⟩
  · have HS := Lib.hid (srtR_spec (cap := cap) hh ht (by omega))
    have HK1 : Hid (Keeps (fun _ => False) W w1 ∧ W.heap.size ≤ g ∧ g < w1.heap.size) := ⟨h1.out.1, hgb, lt_of_heap hh⟩
    have hnl := mrgO_len (lt := rolLt) l
    have HCP : Hid (∀ w2, HoK rolE w2 g 0 (mrgO rolLt l) → Calls Tryz.prog 71 #[.slice (some ⟨g, 0, none⟩) l.length cap] w2 fun e W' => ∃ v', e = .returned v' ∧ Hid (Keeps (fun q => q = g) w2 W' ∧ SrcK rolE W' v' (sortO rolLt l) ∧ OfBR g v')) := fun w2 h2 => by
      have q := compR_spec (cap := cap) h2 (by rw [hnl]; exact hle) (by rw [hnl]; exact hl) (mrgO_sorted rolO l)
      rw [mrgO_eq rolO, hnl] at q
      exact q
    obtain ⟨nl, hnn⟩ : ∃ nl, l.length = nl := ⟨_, rfl⟩
    rw [hnn] at HS HCP ⊢
    clear h1 HC hh ht hle hnl hnn hgb hl
    go_wp2_with fail
    refine HS.out.mono ?_
    rintro e w2 ⟨rfl, h2⟩
    have HP := Lib.hid (HCP.out w2 h2.out.2)
    have HK2 : Hid (Keeps (fun _ => False) W w2 ∧ w1.heap.size ≤ w2.heap.size) := ⟨HK1.out.1.trans_new h2.out.1 (fun q hq e => by have := HK1.out.2; omega), h2.out.1.size⟩
    clear HS HCP h2
    go_wp2_with fail
    refine HP.out.mono ?_
    rintro e w3 ⟨v3, rfl, h3⟩
    have HE : Hid (Keeps (fun _ => False) W w3 ∧ SrcK rolE w3 v3 (sortO rolLt l) ∧ NewAt W w3 v3) := ⟨HK2.out.1.trans_new h3.out.1 (fun q hq e => by have := HK1.out.2; omega), h3.out.2.1, fun k hk => by have e := h3.out.2.2 k hk; subst e; exact ⟨HK1.out.2.1, Nat.lt_of_lt_of_le HK1.out.2.2 (Nat.le_trans HK2.out.2 h3.out.1.size)⟩⟩
    clear HP h3 HK2 HK1
    go_wp2_with fail
    go_ret
    exact ⟨_, rfl, HE⟩
end Go.Proofs.YtcdfpnlaklaafaaGreat
