/-
 All, At, With of a table; an append of a row that came in; which rows are light.
-/
import Derived.Test.YtckikkkdabpjkaaGreatMI
import Derived.Laws.AppendOwnNone
import Derived.Test.YtckikkkdabpjkaaGreatKitSq
import Derived.Test.YtckikkkdabpjkaaGreatMA
set_option linter.unusedVariables false
set_option linter.unusedSimpArgs false
set_option linter.unnecessarySimpa false
namespace Go.Proofs.YtckikkkdabpjkaaGreat
open Go.ChangeShapes Go.WideShapes Go.ChangeAt Go.RowKit Go.Deep
/-- A row of texts that can be appended: nil has no places. -/
def SrcS (w : World) (v : Value) (l : List Str) : Prop := ReadsS w v l ∧ ∀ n cap, v = .slice none n cap → cap = 0
theorem SrcS.keeps {w w' : World} {v : Value} {l : List Str} (h : SrcS w v l) (hk : Keeps (fun _ => False) w w') : SrcS w' v l := ⟨h.1.keeps hk, h.2⟩
/-- An append to a row of the program's own. -/
theorem app_src {ops : Array Oper} {rest : List Oper} {o : Oper} {a : Act} {Q : Exit → Act → World → Prop} {w : World} (hgd : o.guard = none) (s x : Operand)
 (ho : o.op = .call { callee := .builtin .append, args := #[s, x], argTypes := #[29, 29] })
 (base : Nat) (v : Value) (l : List Str) (hs : a.eval s = v) (hown : OwnS base w v l) (xv : Value) (m : List Str) (hx : a.eval x = xv) (hr : SrcS w xv m) (hlen : l.length + m.length ≤ 1000000) (hbase : base ≤ w.heap.size)
 (h : ∀ v' w', OwnS base w' v' (l ++ m) → Keeps (fun q => base ≤ q) w w' → wpList Tryz.prog ops Q rest (a.put o.dst v') w') : wpList Tryz.prog ops Q (o :: rest) a w := by
 obtain ⟨i0, hi0, hz0, hz1, hz2⟩ := info_parts sinfo
 obtain ⟨⟨ao, cap, rfl, hle, hc⟩, hnil⟩ := hr
 have hown' : w.ownsRow base 9 1 v l.length (sCells l) := hown
 have key : ∀ ad, ao = some ad → wpList Tryz.prog ops Q (o :: rest) a w := fun ad had => by
  subst had
  have hcell : ∀ (j : Nat) (u : Value), (sCells m)[j]? = some u → w.cell? (ad.add j) = some u := fun j u hj => by
   unfold sCells at hj
   rw [List.getElem?_map] at hj
   obtain ⟨y, hy, rfl⟩ := Option.map_eq_some_iff.1 hj
   have hm0 : 0 < m.length := by
    rcases Nat.eq_zero_or_pos m.length with h0 | h0
    ·rw [List.eq_nil_of_length_eq_zero h0] at hy; cases hy
    ·exact h0
   obtain ⟨g, off, e, _, hcc⟩ := hc hm0
   simp only [Option.some.injEq] at e
   subst e
   rw [Addr.add_lit]
   exact hcc j y hy
  refine wpList_append_own w hgd s x 29 ho base 9 i0 (.string ⟨#[]⟩) 1 16 Tryz.underlying29 hi0 hz0 hz1 hz2 rfl (by decide) v l.length (sCells l) hs hown' ad m.length cap (sCells m) hx (by simp [sCells]) hcell (fun u hu => ?_) (by unfold maxLen; omega) (by omega) hbase (fun v' w' h1 h2 _ => h v' w' ?_ ?_)
  ·unfold sCells at hu
   obtain ⟨y, _, rfl⟩ := List.mem_map.1 hu
   rfl
  ·show w'.ownsRow base 9 1 v' (l ++ m).length (sCells (l ++ m))
   rw [List.length_append, show sCells (l ++ m) = sCells l ++ sCells m from List.map_append]
   exact h1
  ·exact (keeps_grown h2).mono (fun q _ e => own_block hown' q e)
 cases hao : ao with
 | some ad => exact key ad hao
 | none =>
  subst hao
  have hcap := hnil _ _ rfl
  subst hcap
  have hm0 : m = [] := List.eq_nil_of_length_eq_zero (by omega)
  subst hm0
  refine wpList_append_own_none hgd s x 29 ho base 9 i0 1 Tryz.underlying29 hi0 v l.length (sCells l) hs hown' hx ?_
  refine h v w ?_ (Keeps.refl _ _)
  rw [List.append_nil]
  exact hown
set_option maxRecDepth 100000
set_option maxHeartbeats 3200000
theorem names_all {W : World} {p : Nat} {L : List Str} (h : Tab W p L) (hn : L.length ≤ 100000) :
 Calls Tryz.prog 69 #[.pointer (some ⟨p, 0, none⟩)] W fun e W' => ∃ v, e = .returned v ∧ Hid (Keeps (fun _ => False) W W' ∧ OwnS W.heap.size W' v L) := by
 obtain ⟨v, h1, h2, h3⟩ := h
 have HC := Lib.hid (sclone_spec h3 hn)
 clear h3
 go_enter Tryz.func69, Tryz.ntmps69
 go_wp2_with fail
 refine HC.out.mono ?_
 rintro e w' ⟨v', rfl, hv⟩
 go_wp2_with fail
 go_ret
 exact ⟨_, rfl, hv⟩
/-- At most 40 texts, of at most 40 bytes each. -/
def lightB (l : List Str) : Bool := decide (l.length ≤ 40) && l.all fun s => decide (s.length ≤ 40)
theorem light_spec {W : World} {v : Value} {l : List Str} (h : ReadsS W v l) :
 Calls Tryz.prog 61 #[v] W fun e W' => e = .returned (.bool (lightB l)) ∧ W = W' := by
 obtain ⟨ao, cap, rfl, hle, hr⟩ := h
 obtain ⟨n, hn⟩ : ∃ n, l.length = n := ⟨_, rfl⟩
 rw [hn] at hle hr ⊢
 have HR := Lib.hid hr
 have HN := Lib.hid hn
 clear hr hn
 go_enter Tryz.func61, Tryz.ntmps61
 by_cases h40 : n ≤ 40
 ·have h40I : ¬ (40 : Int) < (n : Int) := by omega
  have HDEF : Hid (lightB l = l.all fun s => decide (s.length ≤ 40)) := by show _ = _; unfold lightB; rw [HN.out, decide_eq_true h40, Bool.true_and]
  go_wp2_with fail
  go_loopg [10] n (fun g t wx => ∃ i : Nat, i ≤ n ∧ g = n - i ∧ t = .int .i64 i ∧ Hid ((l.take i).all (fun s => decide (s.length ≤ 40)) = true) ∧ wx = W)
  case atStart => exact ⟨0, Nat.zero_le _, rfl, rfl, by first | exact Lib.hid trivial | rfl, rfl⟩
  case round =>
   obtain ⟨i, hi, rfl, rfl, HI, rfl⟩ := hrel
   by_cases hlt : i < n
   ·have hiI : (i : Int) < (n : Int) := by omega
    obtain ⟨y, hy⟩ : ∃ y, l[i]? = some y := ⟨_, List.getElem?_eq_getElem (by rw [HN.out]; exact hlt)⟩
    obtain ⟨g, off, rfl, hg, hcc⟩ := HR.out (by omega)
    have hc : wr.cell? ⟨g, off + i, none⟩ = some (.string ⟨y.toArray⟩) := hcc i y hy
    have hwi : IntKind.i64.wrap ((i : Int) + 1) = (i : Int) + 1 := IntWalk.i64_in _ (by omega)
    have hicap : i < cap := by omega
    have hsz : (ByteArray.mk y.toArray).size = y.length := by show y.toArray.size = _; simp
    have HT : Hid ((l.take (i + 1)).all (fun s => decide (s.length ≤ 40)) = decide (y.length ≤ 40)) := by
     show _ = _
     rw [List.take_add_one, hy, List.all_append, show (l.take i).all _ = true from HI.out]
     simp
    have HF : Hid (y.length ≤ 40 ∨ lightB l = false) := by
     by_cases q : y.length ≤ 40
     ·exact .inl q
     ·refine .inr ?_
      rw [HDEF.out, Bool.eq_false_iff]
      intro ha
      rw [List.all_eq_true] at ha
      exact q (of_decide_eq_true (ha y (List.mem_of_getElem? hy)))
    clear hy hcc
    obtain ⟨k, hk⟩ : ∃ k, y.length = k := ⟨_, rfl⟩
    rw [hk] at hsz HT HF
    clear hk
    by_cases hy40 : k ≤ 40
    ·have hyI : ¬ (40 : Int) < (k : Int) := by omega
     have HX : Hid ((l.take (i + 1)).all (fun s => decide (s.length ≤ 40)) = true) := by rw [show Hid _ = _ from rfl]; show _ = _; rw [HT.out, decide_eq_true hy40]
     go_wp2_with fail
     go_roundg (n - (i + 1))
     case measure => omega
     case rel => exact ⟨i + 1, by omega, rfl, by go_num, HX, rfl⟩
    ·have hyI : (40 : Int) < (k : Int) := by omega
     have HX : Hid (lightB l = false) := HF.out.resolve_left hy40
     go_wp2_with fail
     go_ret
     exact ⟨by rw [HX.out]; rfl, rfl⟩
   ·obtain rfl : i = n := by omega
    have hiI : ¬ (i : Int) < (i : Int) := by omega
    have HX : Hid (lightB l = true) := by
     show _ = _
     rw [HDEF.out]
     have q := HI.out
     rw [List.take_of_length_le (by rw [HN.out]; exact Nat.le_refl _)] at q
     exact q
    go_wp2_with fail
    go_ret
    exact ⟨by rw [HX.out]; rfl, rfl⟩
 ·have h40I : (40 : Int) < (n : Int) := by omega
  have HX : Hid (lightB l = false) := by show _ = _; unfold lightB; rw [HN.out, decide_eq_false h40, Bool.false_and]
  go_wp2_with fail
  go_ret
  exact ⟨by rw [HX.out]; rfl, rfl⟩
end Go.Proofs.YtckikkkdabpjkaaGreat
/-
 The document's rows of texts: Has, Put, New.
-/
set_option linter.unusedVariables false
set_option linter.unusedSimpArgs false
set_option linter.unnecessarySimpa false
namespace Go.Proofs.YtckikkkdabpjkaaGreat
open Go.ChangeShapes Go.WideShapes Go.ChangeAt Go.RowKit Go.Deep
theorem one_src (W : World) (a : Str) : SrcS (W.alloc (.cells #[.string ⟨a.toArray⟩] 9)) (.slice (some ⟨W.heap.size, 0, none⟩) 1 1) [a] := by
 have ha := (MapKept.heap_alloc W (.cells #[.string ⟨a.toArray⟩] 9)).1
 refine ⟨⟨_, 1, rfl, Nat.le_refl _, fun _ => ⟨W.heap.size, 0, rfl, lt_of_heap ha, fun j x hj => ?_⟩⟩, fun n cap e => by simp at e⟩
 rw [cell_of_heap ha]
 match j, hj with
 | 0, hj => simp at hj; subst hj; rfl
 | j + 1, hj => simp at hj
set_option maxRecDepth 100000
set_option maxHeartbeats 3200000
theorem ref_has {W : World} {v : Value} {l : List Str} (h : ReadsS W v l) (hl : l.length ≤ 1000000) (s : Str) :
 Calls Tryz.prog 105 #[v, .string ⟨s.toArray⟩] W fun e W' => e = .returned (.bool (decide (s ∈ l))) ∧ W = W' := by
 obtain ⟨ao, cap, rfl, hle, hr⟩ := h
 obtain ⟨n, hn⟩ : ∃ n, l.length = n := ⟨_, rfl⟩
 rw [hn] at hle hr hl ⊢
 have HR := Lib.hid hr
 have HN := Lib.hid hn
 clear hr hn
 go_enter Tryz.func105, Tryz.ntmps105
 go_wp2_with fail
 go_loopg [9] n (fun g t wx => ∃ i : Nat, i ≤ n ∧ g = n - i ∧ t = .int .i64 i ∧ Hid (s ∉ l.take i) ∧ wx = W)
 case atStart => exact ⟨0, Nat.zero_le _, rfl, rfl, Lib.hid (by simp), rfl⟩
 case round =>
  obtain ⟨i, hi, rfl, rfl, HI, rfl⟩ := hrel
  by_cases hlt : i < n
  ·have hiI : (i : Int) < (n : Int) := by omega
   obtain ⟨y, hy⟩ : ∃ y, l[i]? = some y := ⟨_, List.getElem?_eq_getElem (by rw [HN.out]; exact hlt)⟩
   obtain ⟨g, off, rfl, hg, hcc⟩ := HR.out (by omega)
   have hc : wr.cell? ⟨g, off + i, none⟩ = some (.string ⟨y.toArray⟩) := hcc i y hy
   have hwi : IntKind.i64.wrap ((i : Int) + 1) = (i : Int) + 1 := IntWalk.i64_in _ (by omega)
   have hicap : i < cap := by omega
   by_cases hys : y = s
   ·subst hys
    have HX : Hid (decide (y ∈ l) = true) := decide_eq_true (List.mem_of_getElem? hy)
    clear hy hcc
    go_wp2_with fail
    go_ret
    exact ⟨by rw [HX.out]; rfl, rfl⟩
   ·have hbe : (y == s) = false := beq_eq_false_iff_ne.2 hys
    have HX : Hid (s ∉ l.take (i + 1)) := by
     show ¬ _
     rw [List.take_add_one, hy, List.mem_append]
     rintro (q | q)
     ·exact HI.out q
     ·simp at q; exact hys q.symm
    clear hy hcc hys
    go_wp2_with fail
    go_roundg (n - (i + 1))
    case measure => omega
    case rel => exact ⟨i + 1, by omega, rfl, by go_num, HX, rfl⟩
  ·obtain rfl : i = n := by omega
   have hiI : ¬ (i : Int) < (i : Int) := by omega
   have HX : Hid (decide (s ∈ l) = false) := by
    refine decide_eq_false ?_
    have q := HI.out
    rw [List.take_of_length_le (by rw [HN.out]; exact Nat.le_refl _)] at q
    exact q
   go_wp2_with fail
   go_ret
   exact ⟨by rw [HX.out]; rfl, rfl⟩
/-- Where a slice that is left lies: where the old one lay, or in a new block. -/
def Fresh (W : World) (v v' : Value) : Prop := ∀ k, v'.ownBlock = some k → v.ownBlock = some k ∨ W.heap.size ≤ k
theorem ref_put_at {W : World} {v : Value} {l : List Str} (h : ReadsS W v l) (hl : l.length ≤ 10000) (s : Str) :
 Calls Tryz.prog 54 #[v, .string ⟨s.toArray⟩] W fun e W' => ∃ v', e = .returned v' ∧ Hid (KF W W' ∧ ReadsS W' v' (putS l s) ∧ Fresh W v v') := by
 have HH := Lib.hid (ref_has h (by omega) s)
 have HV := Lib.hid h
 obtain ⟨ao, cap, rfl, hle, hr⟩ := h
 obtain ⟨n, hn⟩ : ∃ n, l.length = n := ⟨_, rfl⟩
 rw [hn] at hle hr hl HH HV ⊢
 have HR := Lib.hid hr
 have HN := Lib.hid hn
 clear hr hn
 go_enter Tryz.func54, Tryz.ntmps54
 go_wp2_with fail
 refine HH.out.mono ?_
 rintro e w' ⟨rfl, rfl⟩
 by_cases hin : s ∈ l
 ·rw [decide_eq_true hin]
  have HX : Hid (KF W W ∧ ReadsS W (.slice ao n cap) (putS l s) ∧ Fresh W (.slice ao n cap) (.slice ao n cap)) := by
   refine ⟨Keeps.refl _ _, ?_, fun k hk => .inl hk⟩
   unfold putS
   rw [if_pos hin]
   exact HV.out
  clear HH HR HV
  go_wp2_with fail
  go_ret
  exact ⟨_, rfl, HX⟩
 ·rw [decide_eq_false hin]
  have HP : Hid (putS l s = insS s l) := by show _ = _; unfold putS; rw [if_neg hin]
  clear HH HV
  go_wp2_with fail
  go_loopg [5, 6, 15] n (fun g ov dv t wx => ∃ (i : Nat) (done : Bool) (out : List Str), i ≤ n ∧ g = n - i ∧ t = .int .i64 i ∧ dv = .bool done ∧ out.length ≤ i + 1 ∧ Hid (InsI s l i done out) ∧ Hid (KF W wx ∧ OwnS W.heap.size wx ov out))
  case atStart => exact ⟨0, false, [], Nat.zero_le _, rfl, rfl, rfl, Nat.zero_le _, insI_start s l, Keeps.refl _ _, World.ownsRow_nil _ _ _ _⟩
  case round =>
   obtain ⟨i, done, out, hi, rfl, rfl, rfl, hol, HI, HW⟩ := hrel
   have hsz := HW.out.1.size
   by_cases hlt : i < n
   ·have hiI : (i : Int) < (n : Int) := by omega
    obtain ⟨y, hy⟩ : ∃ y, l[i]? = some y := ⟨_, List.getElem?_eq_getElem (by rw [HN.out]; exact hlt)⟩
    obtain ⟨g, off, rfl, hg, hcc⟩ := HR.out (by omega)
    have hc : wr.cell? ⟨g, off + i, none⟩ = some (.string ⟨y.toArray⟩) := (HW.out.1.cell (p := ⟨g, off + i, none⟩) hg (fun x => x)).trans (hcc i y hy)
    have hwi : IntKind.i64.wrap ((i : Int) + 1) = (i : Int) + 1 := IntWalk.i64_in _ (by omega)
    have hicap : i < cap := by omega
    have HY := Lib.hid hy
    clear hy hcc
    cases done with
    | true =>
     have HN2 := Lib.hid (HI.out.on HY.out)
     clear HI
     go_wp2_with (at_builtin; refine app_src rfl _ _ rfl W.heap.size _ out rfl (HW.out.2.keeps ((Keeps.refl _ _).alloc _)) _ [y] rfl (one_src wr y) (by simp; omega) (by simp; omega) ?_)
     intro v2 w2 ho2 hk2
     have HW2 : Hid (KF W w2 ∧ OwnS W.heap.size w2 v2 (out ++ [y])) := ⟨(HW.out.1.trans ((Keeps.refl (fun _ => False) wr).alloc _)).trans_new hk2 (fun q hq e => by omega), ho2⟩
     clear ho2 hk2 HW
     go_wp2_with fail
     go_roundg (n - (i + 1))
     case measure => omega
     case rel => exact ⟨i + 1, true, out ++ [y], by omega, rfl, by go_num, rfl, by simp; omega, HN2, HW2⟩
    | false =>
     obtain ⟨b, hb⟩ : ∃ b, decide (s < y) = b := ⟨_, rfl⟩
     have hbl : Op.bytesLess s y = b := by rw [Go.Proofs.bytesLess_eq]; exact hb
     have HB := Lib.hid hb
     clear hb
     cases b with
     | true =>
      have HN2 := Lib.hid (HI.out.before HY.out (of_decide_eq_true HB.out))
      have hol2 : out.length ≤ i := by
       have q := (HI.out.no rfl).1
       rw [q, List.length_take]; omega
      clear HI HB
      go_wp2_with (at_builtin; refine app_src rfl _ _ rfl W.heap.size _ out rfl (HW.out.2.keeps ((Keeps.refl _ _).alloc _)) _ [s] rfl (one_src wr s) (by simp; omega) (by simp; omega) ?_)
      intro v2 w2 ho2 hk2
      have HW2 : Hid (KF W w2 ∧ OwnS W.heap.size w2 v2 (out ++ [s])) := ⟨(HW.out.1.trans ((Keeps.refl (fun _ => False) wr).alloc _)).trans_new hk2 (fun q hq e => by omega), ho2⟩
      have hsz2 := HW2.out.1.size
      clear ho2 hk2 HW hc
      go_wp2_with (at_builtin; refine app_src rfl _ _ rfl W.heap.size _ (out ++ [s]) rfl (HW2.out.2.keeps ((Keeps.refl _ _).alloc _)) _ [y] rfl (one_src w2 y) (by simp; omega) (by simp; omega) ?_)
      intro v3 w3 ho3 hk3
      have HW3 : Hid (KF W w3 ∧ OwnS W.heap.size w3 v3 (out ++ [s] ++ [y])) := ⟨(HW2.out.1.trans ((Keeps.refl (fun _ => False) w2).alloc _)).trans_new hk3 (fun q hq e => by omega), by first | exact ho3 | (rw [List.append_assoc]; exact ho3)⟩
      clear ho3 hk3 HW2
      go_wp2_with fail
      go_roundg (n - (i + 1))
      case measure => omega
      case rel => exact ⟨i + 1, true, out ++ [s] ++ [y], by omega, rfl, by go_num, rfl, by simp; omega, HN2, HW3⟩
     | false =>
      have HN2 := Lib.hid (HI.out.pass HY.out (of_decide_eq_false HB.out))
      clear HI HB
      go_wp2_with (at_builtin; refine app_src rfl _ _ rfl W.heap.size _ out rfl (HW.out.2.keeps ((Keeps.refl _ _).alloc _)) _ [y] rfl (one_src wr y) (by simp; omega) (by simp; omega) ?_)
      intro v2 w2 ho2 hk2
      have HW2 : Hid (KF W w2 ∧ OwnS W.heap.size w2 v2 (out ++ [y])) := ⟨(HW.out.1.trans ((Keeps.refl (fun _ => False) wr).alloc _)).trans_new hk2 (fun q hq e => by omega), ho2⟩
      clear ho2 hk2 HW
      go_wp2_with fail
      go_roundg (n - (i + 1))
      case measure => omega
      case rel => exact ⟨i + 1, false, out ++ [y], by omega, rfl, by go_num, rfl, by simp; omega, HN2, HW2⟩
   ·obtain rfl : i = n := by omega
    have hiI : ¬ (i : Int) < (i : Int) := by omega
    cases done with
    | true =>
     have HX : Hid (KF W wr ∧ ReadsS wr u5 (putS l s) ∧ Fresh W (.slice ao i cap) u5) := by
      have q := HI.out
      rw [← HN.out] at q
      have e := q.done
      rw [HP.out, ← e]
      exact ⟨HW.out.1, HW.out.2.reads, fun k hk => .inr (own_block HW.out.2 k hk)⟩
     clear HI HW
     go_wp2_with fail
     go_ret
     exact ⟨_, rfl, HX⟩
    | false =>
     have HE : Hid (out ++ [s] = putS l s) := by
      have q := HI.out
      rw [← HN.out] at q
      rw [HP.out]
      exact q.last
     clear HI
     go_wp2_with (at_builtin; refine app_src rfl _ _ rfl W.heap.size _ out rfl (HW.out.2.keeps ((Keeps.refl _ _).alloc _)) _ [s] rfl (one_src wr s) (by simp; omega) (by simp; omega) ?_)
     intro v2 w2 ho2 hk2
     have HX : Hid (KF W w2 ∧ ReadsS w2 v2 (putS l s) ∧ Fresh W (.slice ao i cap) v2) := ⟨(HW.out.1.trans ((Keeps.refl (fun _ => False) wr).alloc _)).trans_new hk2 (fun q hq e => by omega), by rw [← HE.out]; exact ho2.reads, fun k hk => .inr (own_block ho2 k hk)⟩
     clear ho2 hk2 HW
     go_wp2_with fail
     go_ret
     exact ⟨_, rfl, HX⟩
end Go.Proofs.YtckikkkdabpjkaaGreat
