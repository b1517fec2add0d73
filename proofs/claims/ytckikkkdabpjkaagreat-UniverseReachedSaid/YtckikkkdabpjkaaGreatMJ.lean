/-
 All, At, With of a table; an append of a row that came in; which rows are light.
-/
import Derived.Test.YtckikkkdabpjkaaGreatMI
import Derived.Laws.AppendOwnNone
import Derived.Test.YtckikkkdabpjkaaGreatMA
set_option linter.unusedVariables false
set_option linter.unusedSimpArgs false
set_option linter.unnecessarySimpa false
namespace Go.Proofs.YtckikkkdabpjkaaGreat
open Go.ChangeShapes Go.WideShapes Go.ChangeAt Go.RowKit Go.Deep
/-- A row of texts that can be appended: nil has no places. -/
def SrcS (w : World) (v : Value) (l : List Str) : Prop := ReadsS w v l ∧ ∀ n cap, v = .slice none n cap → cap = 0
theorem SrcS.keeps {w w' : World} {v : Value} {l : List Str} (h : SrcS w v l) (hk : Keeps (fun _ => False) w w') : SrcS w' v l := ⟨h.1.keeps hk, h.2⟩
/-- An append to a row of the program's own. -/
theorem app_src {ops : Array Oper} {rest : List Oper} {o : Oper} {a : Act} {Q : Exit → Act → World → Prop} {w : World} (hgd : o.guard = none) (s x : Operand)
 (ho : o.op = .call { callee := .builtin .append, args := #[s, x], argTypes := #[29, 29] })
 (base : Nat) (v : Value) (l : List Str) (hs : a.eval s = v) (hown : OwnS base w v l) (xv : Value) (m : List Str) (hx : a.eval x = xv) (hr : SrcS w xv m) (hlen : l.length + m.length ≤ 1000000) (hbase : base ≤ w.heap.size)
 (h : ∀ v' w', OwnS base w' v' (l ++ m) → Keeps (fun q => base ≤ q) w w' → wpList Tryz.prog ops Q rest (a.put o.dst v') w') : wpList Tryz.prog ops Q (o :: rest) a w := by
 obtain ⟨i0, hi0, hz0, hz1, hz2⟩ := info_parts sinfo
 obtain ⟨⟨ao, cap, rfl, hle, hc⟩, hnil⟩ := hr
 have hown' : w.ownsRow base 9 1 v l.length (sCells l) := hown
 have key : ∀ ad, ao = some ad → wpList Tryz.prog ops Q (o :: rest) a w := fun ad had => by
  subst had
  have hcell : ∀ (j : Nat) (u : Value), (sCells m)[j]? = some u → w.cell? (ad.add j) = some u := fun j u hj => by
   unfold sCells at hj
   rw [List.getElem?_map] at hj
   obtain ⟨y, hy, rfl⟩ := Option.map_eq_some_iff.1 hj
   have hm0 : 0 < m.length := by
    rcases Nat.eq_zero_or_pos m.length with h0 | h0
    ·rw [List.eq_nil_of_length_eq_zero h0] at hy; cases hy
    ·exact h0
   obtain ⟨g, off, e, _, hcc⟩ := hc hm0
   simp only [Option.some.injEq] at e
   subst e
   rw [Addr.add_lit]
   exact hcc j y hy
  refine wpList_append_own w hgd s x 29 ho base 9 i0 (.string ⟨#[]⟩) 1 16 Tryz.underlying29 hi0 hz0 hz1 hz2 rfl (by decide) v l.length (sCells l) hs hown' ad m.length cap (sCells m) hx (by simp [sCells]) hcell (fun u hu => ?_) (by unfold maxLen; omega) (by omega) hbase (fun v' w' h1 h2 _ => h v' w' ?_ ?_)
  ·unfold sCells at hu
   obtain ⟨y, _, rfl⟩ := List.mem_map.1 hu
   rfl
  ·show w'.ownsRow base 9 1 v' (l ++ m).length (sCells (l ++ m))
   rw [List.length_append, show sCells (l ++ m) = sCells l ++ sCells m from List.map_append]
   exact h1
  ·exact (keeps_grown h2).mono (fun q _ e => own_block hown' q e)
 cases hao : ao with
 | some ad => exact key ad hao
 | none =>
  subst hao
  have hcap := hnil _ _ rfl
  subst hcap
  have hm0 : m = [] := List.eq_nil_of_length_eq_zero (by omega)
  subst hm0
  refine wpList_append_own_none hgd s x 29 ho base 9 i0 1 Tryz.underlying29 hi0 v l.length (sCells l) hs hown' hx ?_
  refine h v w ?_ (Keeps.refl _ _)
  rw [List.append_nil]
  exact hown
set_option maxRecDepth 100000
set_option maxHeartbeats 3200000
theorem names_all {W : World} {p : Nat} {L : List Str} (h : Tab W p L) (hn : L.length ≤ 100000) :
 Calls Tryz.prog 69 #[.pointer (some ⟨p, 0, none⟩)] W fun e W' => ∃ v, e = .returned v ∧ Hid (Keeps (fun _ => False) W W' ∧ OwnS W.heap.size W' v L) := by
 obtain ⟨v, h1, h2, h3⟩ := h
 have HC := Lib.hid (sclone_spec h3 hn)
 clear h3
 go_enter Tryz.func69, Tryz.ntmps69
 go_wp2_with fail
 refine HC.out.mono ?_
 rintro e w' ⟨v', rfl, hv⟩
 go_wp2_with fail
 go_ret
 exact ⟨_, rfl, hv⟩
/-- At most 40 texts, of at most 40 bytes each. -/
def lightB (l : List Str) : Bool := decide (l.length ≤ 40) && l.all fun s => decide (s.length ≤ 40)
theorem light_spec {W : World} {v : Value} {l : List Str} (h : ReadsS W v l) :
 Calls Tryz.prog 61 #[v] W fun e W' => e = .returned (.bool (lightB l)) ∧ W = W' := by
 obtain ⟨ao, cap, rfl, hle, hr⟩ := h
 obtain ⟨n, hn⟩ : ∃ n, l.length = n := ⟨_, rfl⟩
 rw [hn] at hle hr ⊢
 have HR := Lib.hid hr
 have HN := Lib.hid hn
 clear hr hn
 go_enter Tryz.func61, Tryz.ntmps61
 by_cases h40 : n ≤ 40
 ·have h40I : ¬ (40 : Int) < (n : Int) := by omega
  have HDEF : Hid (lightB l = l.all fun s => decide (s.length ≤ 40)) := by show _ = _; unfold lightB; rw [HN.out, decide_eq_true h40, Bool.true_and]
  go_wp2_with fail
  go_loopg [10] n (fun g t wx => ∃ i : Nat, i ≤ n ∧ g = n - i ∧ t = .int .i64 i ∧ Hid ((l.take i).all (fun s => decide (s.length ≤ 40)) = true) ∧ wx = W)
  case atStart => exact ⟨0, Nat.zero_le _, rfl, rfl, by first | exact Lib.hid trivial | rfl, rfl⟩
  case round =>
   obtain ⟨i, hi, rfl, rfl, HI, rfl⟩ := hrel
   by_cases hlt : i < n
   ·have hiI : (i : Int) < (n : Int) := by omega
    obtain ⟨y, hy⟩ : ∃ y, l[i]? = some y := ⟨_, List.getElem?_eq_getElem (by rw [HN.out]; exact hlt)⟩
    obtain ⟨g, off, rfl, hg, hcc⟩ := HR.out (by omega)
    have hc : wr.cell? ⟨g, off + i, none⟩ = some (.string ⟨y.toArray⟩) := hcc i y hy
    have hwi : IntKind.i64.wrap ((i : Int) + 1) = (i : Int) + 1 := IntWalk.i64_in _ (by omega)
    have hicap : i < cap := by omega
    have hsz : (ByteArray.mk y.toArray).size = y.length := by show y.toArray.size = _; simp
    have HT : Hid ((l.take (i + 1)).all (fun s => decide (s.length ≤ 40)) = decide (y.length ≤ 40)) := by
     show _ = _
     rw [List.take_add_one, hy, List.all_append, show (l.take i).all _ = true from HI.out]
     simp
    have HF : Hid (y.length ≤ 40 ∨ lightB l = false) := by
     by_cases q : y.length ≤ 40
     ·exact .inl q
     ·refine .inr ?_
      rw [HDEF.out, Bool.eq_false_iff]
      intro ha
      rw [List.all_eq_true] at ha
      exact q (of_decide_eq_true (ha y (List.mem_of_getElem? hy)))
    clear hy hcc
    obtain ⟨k, hk⟩ : ∃ k, y.length = k := ⟨_, rfl⟩
    rw [hk] at hsz HT HF
    clear hk
    by_cases hy40 : k ≤ 40
    ·have hyI : ¬ (40 : Int) < (k : Int) := by omega
     have HX : Hid ((l.take (i + 1)).all (fun s => decide (s.length ≤ 40)) = true) := by rw [show Hid _ = _ from rfl]; show _ = _; rw [HT.out, decide_eq_true hy40]
     go_wp2_with fail
     go_roundg (n - (i + 1))
     case measure => omega
     case rel => exact ⟨i + 1, by omega, rfl, by go_num, HX, rfl⟩
    ·have hyI : (40 : Int) < (k : Int) := by omega
     have HX : Hid (lightB l = false) := HF.out.resolve_left hy40
     go_wp2_with fail
     go_ret
     exact ⟨by rw [HX.out]; rfl, rfl⟩
   ·obtain rfl : i = n := by omega
    have hiI : ¬ (i : Int) < (i : Int) := by omega
    have HX : Hid (lightB l = true) := by
     show _ = _
     rw [HDEF.out]
     have q := HI.out
     rw [List.take_of_length_le (by rw [HN.out]; exact Nat.le_refl _)] at q
     exact q
    go_wp2_with fail
    go_ret
    exact ⟨by rw [HX.out]; rfl, rfl⟩
 ·have h40I : (40 : Int) < (n : Int) := by omega
  have HX : Hid (lightB l = false) := by show _ = _; unfold lightB; rw [HN.out, decide_eq_false h40, Bool.false_and]
  go_wp2_with fail
  go_ret
  exact ⟨by rw [HX.out]; rfl, rfl⟩
end Go.Proofs.YtckikkkdabpjkaaGreat
/-
 The document's rows of texts: Has, Put, New.
-/
set_option linter.unusedVariables false
set_option linter.unusedSimpArgs false
set_option linter.unnecessarySimpa false
namespace Go.Proofs.YtckikkkdabpjkaaGreat
open Go.ChangeShapes Go.WideShapes Go.ChangeAt Go.RowKit Go.Deep
set_option maxRecDepth 100000
set_option maxHeartbeats 3200000
/-- Where a slice that is left lies: where the old one lay, or in a new block. -/
def Fresh (W : World) (v v' : Value) : Prop := ∀ k, v'.ownBlock = some k → v.ownBlock = some k ∨ W.heap.size ≤ k
end Go.Proofs.YtckikkkdabpjkaaGreat
