/-
 When a query is satisfied by statements, in plain words.
-/
import Derived.Test.YtckikkkdabpjkaaGreatCutsEval
import Derived.Test.YtckikkkdabpjkaaGreatRelevOf
import Derived.Test.YtckikkkdabpjkaaGreatKitSq
import Derived.Test.YtckikkkdabpjkaaGreatMG
set_option linter.unusedVariables false
set_option linter.unusedSimpArgs false
namespace Go.Proofs.YtckikkkdabpjkaaGreat
def insB (a b : List Str) : Bool := a.all fun x => decide (x ∈ b)
theorem insB_iff {a b : List Str} : insB a b = true ↔ ∀ x ∈ a, x ∈ b := by
 unfold insB
 rw [List.all_eq_true]
 exact ⟨fun h x hx => of_decide_eq_true (h x hx), fun h x hx => decide_eq_true (h x hx)⟩
/-- P13.1, of what was found. -/
def satB (l : List Pr) (q : Qry) : Bool :=
 if q.1 = 1 ∨ q.1 = 2 then insB q.2.2.2 (memL l q.2.1)
 else if q.1 = 3 then insB (memL l q.2.1) q.2.2.2
 else if q.1 = 4 then decide ((memL l q.2.1).length = 0)
 else if q.1 = 5 then (memL l q.2.1).all fun x => !decide (x ∈ memL l q.2.2.1)
 else if q.1 = 6 then insB (memL l q.2.1) (memL l q.2.2.1)
 else false
theorem satB_same {l l' : List Pr} {q : Qry} (h : ∀ r, memL l r = memL l' r) : satB l q = satB l' q := by
 unfold satB
 rw [h, h]
/-- So many rounds. -/
def evN (F : List Stm) : Nat → List Pr → List Pr
 | 0, l => l
 | n + 1, l => evN F n (F.foldl stepP l)
theorem evN_stay {F : List Stm} {l : List Pr} (h : F.foldl stepP l = l) : ∀ n, evN F n l = l
 | 0 => rfl
 | n + 1 => by
  show evN F n (F.foldl stepP l) = l
  rw [h]
  exact evN_stay h n
theorem evN_ev {F : List Stm} : ∀ (n : Nat) {l : List Pr}, EvI F l → EvI F (evN F n l)
 | 0, _, h => h
 | n + 1, _, h => evN_ev n (h.run F (fun _ hy => hy))
theorem evN_ends {F : List Stm} : ∀ (n : Nat) (l : List Pr), ShutP F (evN F n l) ∨ l.length + n ≤ (evN F n l).length
 | 0, l => .inr (Nat.le_refl _)
 | n + 1, l => by
  obtain ⟨h1, h2⟩ := fold_len F l
  by_cases he : (F.foldl stepP l).length = l.length
  ·obtain ⟨h3, h4⟩ := h2 he
   left
   show ShutP F (evN F n (F.foldl stepP l))
   rw [h3, evN_stay h3]
   exact h4
  ·rcases evN_ends n (F.foldl stepP l) with h5 | h5
   ·exact .inl h5
   ·right
    show l.length + (n + 1) ≤ (evN F n (F.foldl stepP l)).length
    omega
/-- All that follows. -/
def evA (F : List Stm) : List Pr := evN F (F.length * F.length + 1) []
theorem evA_ev (F : List Stm) : EvI F (evA F) := evN_ev _ (EvI.nil F)
theorem evA_shut (F : List Stm) : ShutP F (evA F) := by
 rcases evN_ends (F := F) (F.length * F.length + 1) [] with h | h
 ·exact h
 ·have h2 := (evA_ev F).len
  unfold evA at h2
  simp only [List.length_nil] at h
  omega
theorem ev_same {F : List Stm} (hk : ∀ y ∈ F, 1 ≤ y.2.1 ∧ y.2.1 ≤ 4) {l l' : List Pr} (h1 : EvI F l) (h2 : ShutP F l) (h3 : EvI F l') (h4 : ShutP F l') (r : Rol) : memL l r = memL l' r :=
 memL_same (fun w => ⟨fun h => shut_all hk h4 (h1.der _ h), fun h => shut_all hk h2 (h3.der _ h)⟩)
/-- Is a query satisfied by statements? -/
def inF (F : List Stm) (q : Qry) : Bool := satB (evA F) q
theorem inF_eq {F : List Stm} (hk : ∀ y ∈ F, 1 ≤ y.2.1 ∧ y.2.1 ≤ 4) {l : List Pr} (h1 : EvI F l) (h2 : ShutP F l) (q : Qry) : satB l q = inF F q := satB_same (ev_same hk h1 h2 (evA_ev F) (evA_shut F))
theorem evA_mem {F : List Stm} (hk : ∀ y ∈ F, 1 ≤ y.2.1 ∧ y.2.1 ≤ 4) {r : Rol} {w : Str} : w ∈ memL (evA F) r ↔ Der F r w := by
 rw [memL_mem]
 exact ⟨fun h => (evA_ev F).der _ h, fun h => shut_all hk (evA_shut F) h⟩
theorem inF6 {F : List Stm} (hk : ∀ y ∈ F, 1 ≤ y.2.1 ∧ y.2.1 ≤ 4) {q : Qry} (h6 : q.1 = 6) : inF F q = true ↔ ∀ w, Der F q.2.1 w → Der F q.2.2.1 w := by
 unfold inF satB
 rw [if_neg (by omega), if_neg (by omega), if_neg (by omega), if_neg (by omega), if_pos h6, insB_iff]
 exact ⟨fun h w hw => (evA_mem hk).1 (h w ((evA_mem hk).2 hw)), fun h w hw => (evA_mem hk).2 (h w ((evA_mem hk).1 hw))⟩
end Go.Proofs.YtckikkkdabpjkaaGreat
/-
 The document's Inside, Satisfies, In.
-/
set_option linter.unusedVariables false
set_option linter.unusedSimpArgs false
set_option linter.unnecessarySimpa false
namespace Go.Proofs.YtckikkkdabpjkaaGreat
open Go.ChangeShapes Go.WideShapes Go.ChangeAt Go.RowKit Go.Deep
set_option maxRecDepth 100000
set_option maxHeartbeats 6400000
theorem winside_spec {W : World} {va vb : Value} {a b : List Str} (ha : ReadsS W va a) (hb : ReadsS W vb b) (h1 : a.length ≤ 1000000) (h2 : b.length ≤ 1000000) :
 Calls Tryz.prog 131 #[va, vb] W fun e W' => e = .returned (.bool (insB a b)) ∧ Hid (KF W W') := by
 have HA := Lib.hid ha
 have HB := Lib.hid (fun (w : World) (hk : KF W w) (s : Str) => ref_has (hb.keeps hk) h2 s)
 obtain ⟨ao, cap, rfl, hle, _⟩ := id ha
 obtain ⟨n, hn⟩ : ∃ n, a.length = n := ⟨_, rfl⟩
 rw [hn] at hle h1 HA ⊢
 have HN := Lib.hid hn
 obtain ⟨d, hd⟩ : ∃ d, insB a b = d := ⟨_, rfl⟩
 have HD : Hid (d = true ↔ ∀ x ∈ a, x ∈ b) := by rw [← hd]; exact insB_iff
 rw [hd]
 clear hn hd ha hb h2
 go_enter Tryz.func131, Tryz.ntmps131
 have HI0 : Hid (KF W W ∧ ∀ x ∈ a.take 0, x ∈ b) := ⟨Keeps.refl _ _, fun x hx => by cases hx⟩
 go_wp2_with fail
 go_loopg [9] n (fun g t wx => ∃ i : Nat, i ≤ n ∧ g = n - i ∧ t = .int .i64 i ∧ Hid (KF W wx ∧ ∀ x ∈ a.take i, x ∈ b))
 case atStart => exact ⟨0, Nat.zero_le _, rfl, rfl, HI0⟩
 case round =>
  clear HI0
  obtain ⟨i, hi, rfl, rfl, HI⟩ := hrel
  by_cases hlt : i < n
  ·have hiI : (i : Int) < (n : Int) := by omega
   have hwi : IntKind.i64.wrap ((i : Int) + 1) = (i : Int) + 1 := IntWalk.i64_in _ (by omega)
   have hicap : i < cap := by omega
   obtain ⟨y, hy⟩ : ∃ y, a[i]? = some y := ⟨_, List.getElem?_eq_getElem (by rw [HN.out]; exact hlt)⟩
   obtain ⟨aoz, cpz, ez, hez, hrz⟩ := id (HA.out.keeps HI.out.1)
   obtain ⟨g, off, hao, hg, hcc⟩ := hrz (by rw [HN.out]; omega)
   simp only [Value.slice.injEq] at ez
   obtain ⟨rfl, hzz, rfl⟩ := ez
   subst hao
   have c0 : wr.cell? ⟨g, off + i, none⟩ = some (.string ⟨y.toArray⟩) := hcc i y hy
   have HTK : Hid (∀ z ∈ a.take (i + 1), z ∈ a.take i ∨ z = y) := fun z hz => by
    rw [List.take_add_one, hy, List.mem_append] at hz
    exact hz.imp id (fun q => by simpa using q)
   have HYM : Hid (y ∈ a) := List.mem_of_getElem? hy
   have HC := Lib.hid (HB.out wr HI.out.1 y)
   obtain ⟨bm, hbm⟩ : ∃ x, decide (y ∈ b) = x := ⟨_, rfl⟩
   rw [hbm] at HC
   have HBM := Lib.hid hbm
   clear hcc hrz hez hzz hy hbm hg
   go_wp2_with fail
   refine HC.out.mono ?_
   rintro e w2 ⟨rfl, hk⟩
   have HK2 : Hid (KF W w2 ∧ ∀ x ∈ a.take i, x ∈ b) := ⟨HI.out.1.trans (by rw [← hk]; exact Keeps.refl _ _), HI.out.2⟩
   clear HC hk HI c0
   cases bm
   case false =>
    have HE : Hid (d = false ∧ KF W w2) := ⟨Bool.eq_false_iff.2 (fun e => of_decide_eq_false HBM.out (HD.out.1 e y HYM.out)), HK2.out.1⟩
    clear HK2 HTK
    go_wp2_with fail
    go_ret
    exact ⟨by rw [HE.out.1]; rfl, HE.out.2⟩
   case true =>
    have HN2 : Hid (KF W w2 ∧ ∀ x ∈ a.take (i + 1), x ∈ b) := ⟨HK2.out.1, fun z hz => (HTK.out z hz).elim (HK2.out.2 z) (fun e => by rw [e]; exact of_decide_eq_true HBM.out)⟩
    clear HK2 HTK
    go_wp2_with fail
    go_roundg (n - (i + 1))
    case measure => omega
    case rel => exact ⟨i + 1, by omega, rfl, by go_num, HN2⟩
  ·obtain rfl : i = n := by omega
   have hiI : ¬ (i : Int) < (i : Int) := by omega
   have HE : Hid (d = true ∧ KF W wr) := ⟨HD.out.2 (by have := HI.out.2; rw [List.take_of_length_le (by have := HN.out; omega)] at this; exact this), HI.out.1⟩
   clear HI
   go_wp2_with fail
   go_ret
   exact ⟨by rw [HE.out.1]; rfl, HE.out.2⟩
theorem wsat_spec {W : World} {v : Value} {l : List Pr} (h : RdK prE W v l) (hl : l.length ≤ 9000) {wo : Option Addr} {wn wc : Nat} {q : Qry} (hq : ReadsS W (.slice wo wn wc) q.2.2.2) (hn : q.2.2.2.length ≤ 1000) :
 Calls Tryz.prog 81 #[v, qryV q (.slice wo wn wc)] W fun e W' => e = .returned (.bool (satB l q)) ∧ Hid (KF W W') := by
 obtain ⟨lo, lc, hv, _⟩ := id h
 obtain ⟨ln, hln⟩ : ∃ n : Nat, v = .slice lo n lc := ⟨_, hv⟩
 clear hv
 subst hln
 obtain ⟨d, hd⟩ : ∃ d, satB l q = d := ⟨_, rfl⟩
 obtain ⟨qk, ⟨qa1, qa2⟩, ⟨qb1, qb2⟩, qw⟩ := q
 rw [hd]
 unfold satB at hd
 simp only at hd hq hn
 obtain ⟨WA, hWA⟩ : ∃ q, W.alloc (bQ qk qa1 qa2 qb1 qb2 wo wn wc) = q := ⟨_, rfl⟩
 have hal := (MapKept.heap_alloc W (bQ qk qa1 qa2 qb1 qb2 wo wn wc)).1
 have HKWA : Hid (KF W WA) := by rw [← hWA]; exact (Keeps.refl _ _).alloc _
 rw [hWA] at hal
 obtain ⟨qb, hqb⟩ : ∃ q, W.heap.size = q := ⟨_, rfl⟩
 have HBqb := Lib.hid hqb
 rw [hqb] at hal
 have HAWA := Lib.hid hal
 clear hal
 have HA := Lib.hid (pmembers_spec (h.keeps HKWA.out) hl (qa1, qa2))
 have HB := Lib.hid (fun (w : World) (hk : KF WA w) => pmembers_spec (h.keeps (HKWA.out.trans hk)) hl (qb1, qb2))
 have HW := Lib.hid (hq.keeps HKWA.out)
 have HLN : Hid ((memL l (qa1, qa2)).length ≤ 9000 ∧ (memL l (qb1, qb2)).length ≤ 9000 ∧ qw.length ≤ 1000) := ⟨by have := memL_len l (qa1, qa2); omega, by have := memL_len l (qb1, qb2); omega, hn⟩
 have HD := Lib.hid hd
 obtain ⟨p0, f0, p1, f1, p2, f2, p3, f3, p4, f4, p5, f5⟩ := cf6 HAWA.out
 clear h hq hn hd f0 f1 f2 f3 f4 f5
 unfold qryV
 unfold rolV2 at HA HB
 simp only at HA HB ⊢
 go_enter Tryz.func81, Tryz.ntmps81
 go_upto_region 1 with fail
 (try simp only [hWA, hqb])
 clear hWA hqb
 go_wp2_with fail
 refine HA.out.mono ?_
 rintro e w1 ⟨av, rfl, hk⟩
 have HQ1 := Lib.hid ((hk.out.1.block _ (lt_of_heap HAWA.out) (fun x => x)).trans HAWA.out)
 have HB1 := Lib.hid (HB.out _ hk.out.1)
 have HK1 := Lib.hid hk.out.1
 have HAV := Lib.hid hk.out.2
 clear HA HB hk p0 p1 p2 p3 p4 p5
 obtain ⟨p0, f0, p1, f1, p2, f2, p3, f3, p4, f4, p5, f5⟩ := cf6 HQ1.out
 clear f0 f1 f2 f3 f4 f5
 go_wp2_with fail
 refine HB1.out.mono ?_
 rintro e w2 ⟨bv, rfl, hk⟩
 have HQ2 := Lib.hid ((hk.out.1.block _ (lt_of_heap HQ1.out) (fun x => x)).trans HQ1.out)
 have HK2 := Lib.hid (HK1.out.trans hk.out.1)
 have HA2 := Lib.hid (HAV.out.keeps hk.out.1)
 have HB2 := Lib.hid hk.out.2
 have HW2 := Lib.hid (HW.out.keeps HK2.out)
 obtain ⟨ao, ac, hav, hale, _⟩ := id HA2.out
 obtain ⟨bo, bc, hbv, _⟩ := id HB2.out
 obtain ⟨an, han⟩ : ∃ n, (memL l (qa1, qa2)).length = n := ⟨_, rfl⟩
 obtain ⟨bn, hbn⟩ : ∃ n : Nat, bv = .slice bo n bc := ⟨_, hbv⟩
 rw [han] at hav hale
 have HAN := Lib.hid han
 subst hav hbn
 clear HB1 hk HQ1 HK1 HAV HW p0 p1 p2 p3 p4 p5 hbv han
 have HKW : Hid (KF W w2) := HKWA.out.trans HK2.out
 obtain ⟨p0, f0, p1, f1, p2, f2, p3, f3, p4, f4, p5, f5⟩ := cf6 HQ2.out
 clear f0 f1 f2 f3 f4 f5 HQ2 HK2
 by_cases e1 : qk = 1
 case pos =>
  subst e1
  have HC := Lib.hid (winside_spec HW2.out HA2.out (by have := HLN.out; omega) (by have := HLN.out; omega))
  rw [show insB qw (memL l (qa1, qa2)) = d from by rw [← HD.out]; rfl] at HC
  go_wp2_with fail
  refine HC.out.mono ?_
  rintro e w3 ⟨rfl, hk⟩
  have HE : Hid (KF W w3) := HKW.out.trans hk.out
  clear HC hk
  go_wp2_with fail
  go_ret
  exact ⟨rfl, HE⟩
 case neg =>
  have b1 : (qk == 1) = false := beq_eq_false_iff_ne.2 e1
  by_cases e2 : qk = 2
  case pos =>
   subst e2
   have HC := Lib.hid (winside_spec HW2.out HA2.out (by have := HLN.out; omega) (by have := HLN.out; omega))
   rw [show insB qw (memL l (qa1, qa2)) = d from by rw [← HD.out]; rfl] at HC
   go_wp2_with fail
   refine HC.out.mono ?_
   rintro e w3 ⟨rfl, hk⟩
   have HE : Hid (KF W w3) := HKW.out.trans hk.out
   clear HC hk
   go_wp2_with fail
   go_ret
   exact ⟨rfl, HE⟩
  case neg =>
   have b2 : (qk == 2) = false := beq_eq_false_iff_ne.2 e2
   by_cases e3 : qk = 3
   case pos =>
    subst e3
    have HC := Lib.hid (winside_spec HA2.out HW2.out (by have := HLN.out; omega) (by have := HLN.out; omega))
    rw [show insB (memL l (qa1, qa2)) qw = d from by rw [← HD.out]; rfl] at HC
    go_wp2_with fail
    refine HC.out.mono ?_
    rintro e w3 ⟨rfl, hk⟩
    have HE : Hid (KF W w3) := HKW.out.trans hk.out
    clear HC hk
    go_wp2_with fail
    go_ret
    exact ⟨rfl, HE⟩
   case neg =>
    have b3 : (qk == 3) = false := beq_eq_false_iff_ne.2 e3
    by_cases e4 : qk = 4
    case pos =>
     subst e4
     have he : Hid (d = decide (an = 0)) := by show _ = _; rw [← HD.out, ← HAN.out]; rfl
     have hei : ((an : Int) == 0) = d := by rw [he.out, Bool.eq_iff_iff]; simp
     go_wp2_with fail
     go_ret
     exact ⟨by first | rfl | (rw [← hei]; rfl), HKW⟩
    case neg =>
     have b4 : (qk == 4) = false := beq_eq_false_iff_ne.2 e4
     by_cases e5 : qk = 5
     case pos =>
      subst e5
      have HD5 : Hid (d = true ↔ ∀ x ∈ (memL l (qa1, qa2)), x ∉ (memL l (qb1, qb2))) := by
       have e : d = (memL l (qa1, qa2)).all (fun x => !decide (x ∈ (memL l (qb1, qb2)))) := by rw [← HD.out]; rfl
       rw [e, List.all_eq_true]
       exact ⟨fun h x hx => of_decide_eq_false (by simpa using h x hx), fun h x hx => by simpa using h x hx⟩
      have HBH := Lib.hid (fun (w : World) (hk : KF w2 w) (s : Str) => ref_has (HB2.out.keeps hk) (by have := HLN.out; omega) s)
      have HI0 : Hid (KF w2 w2 ∧ ∀ x ∈ (memL l (qa1, qa2)).take 0, x ∉ (memL l (qb1, qb2))) := ⟨Keeps.refl _ _, fun x hx => by cases hx⟩
      have han9 : an ≤ 9000 := by have := HLN.out.1; have := HAN.out; omega
      go_wp2_with fail
      clear p0 p1 p2 p3 p4 p5
      go_loopg [41] an (fun g t wx => ∃ i : Nat, i ≤ an ∧ g = an - i ∧ t = .int .i64 i ∧ Hid (KF w2 wx ∧ ∀ x ∈ (memL l (qa1, qa2)).take i, x ∉ (memL l (qb1, qb2))))
      case atStart => exact ⟨0, Nat.zero_le _, rfl, rfl, HI0⟩
      case round =>
       clear HI0
       obtain ⟨i, hi, rfl, rfl, HI⟩ := hrel
       by_cases hlt : i < an
       ·have hiI : (i : Int) < (an : Int) := by omega
        have hwi : IntKind.i64.wrap ((i : Int) + 1) = (i : Int) + 1 := IntWalk.i64_in _ (by omega)
        have hicap : i < ac := by omega
        obtain ⟨y, hy⟩ : ∃ y, (memL l (qa1, qa2))[i]? = some y := ⟨_, List.getElem?_eq_getElem (by rw [HAN.out]; exact hlt)⟩
        obtain ⟨aoz, cpz, ez, hez, hrz⟩ := id (HA2.out.keeps HI.out.1)
        obtain ⟨g, off, hao, hg, hcc⟩ := hrz (by rw [HAN.out]; omega)
        simp only [Value.slice.injEq] at ez
        obtain ⟨rfl, hzz, rfl⟩ := ez
        subst hao
        have c0 : wr.cell? ⟨g, off + i, none⟩ = some (.string ⟨y.toArray⟩) := hcc i y hy
        have HTK : Hid (∀ z ∈ (memL l (qa1, qa2)).take (i + 1), z ∈ (memL l (qa1, qa2)).take i ∨ z = y) := fun z hz => by
         rw [List.take_add_one, hy, List.mem_append] at hz
         exact hz.imp id (fun q => by simpa using q)
        have HYM : Hid (y ∈ (memL l (qa1, qa2))) := List.mem_of_getElem? hy
        have HC := Lib.hid (HBH.out wr HI.out.1 y)
        obtain ⟨bm, hbm⟩ : ∃ x, decide (y ∈ (memL l (qb1, qb2))) = x := ⟨_, rfl⟩
        rw [hbm] at HC
        have HBM := Lib.hid hbm
        clear hcc hrz hez hzz hy hbm hg
        go_wp2_with fail
        refine HC.out.mono ?_
        rintro e w3 ⟨rfl, hk⟩
        have HK3 : Hid (KF w2 w3 ∧ ∀ x ∈ (memL l (qa1, qa2)).take i, x ∉ (memL l (qb1, qb2))) := ⟨HI.out.1.trans (by rw [← hk]; exact Keeps.refl _ _), HI.out.2⟩
        clear HC hk HI c0
        cases bm
        case true =>
         have HE : Hid (d = false ∧ KF W w3) := ⟨Bool.eq_false_iff.2 (fun e => HD5.out.1 e y HYM.out (of_decide_eq_true HBM.out)), HKW.out.trans HK3.out.1⟩
         clear HK3 HTK
         go_wp2_with fail
         go_ret
         exact ⟨by rw [HE.out.1]; rfl, HE.out.2⟩
        case false =>
         have HN2 : Hid (KF w2 w3 ∧ ∀ x ∈ (memL l (qa1, qa2)).take (i + 1), x ∉ (memL l (qb1, qb2))) := ⟨HK3.out.1, fun z hz => (HTK.out z hz).elim (HK3.out.2 z) (fun e => by rw [e]; exact of_decide_eq_false HBM.out)⟩
         clear HK3 HTK
         go_wp2_with fail
         go_roundg (an - (i + 1))
         case measure => omega
         case rel => exact ⟨i + 1, by omega, rfl, by go_num, HN2⟩
       ·obtain rfl : i = an := by omega
        have hiI : ¬ (i : Int) < (i : Int) := by omega
        have HE : Hid (d = true ∧ KF W wr) := ⟨HD5.out.2 (by have := HI.out.2; rw [List.take_of_length_le (by have := HAN.out; omega)] at this; exact this), HKW.out.trans HI.out.1⟩
        clear HI
        go_wp2_with fail
        go_ret
        exact ⟨by rw [HE.out.1]; rfl, HE.out.2⟩
     case neg =>
      have b5 : (qk == 5) = false := beq_eq_false_iff_ne.2 e5
      by_cases e6 : qk = 6
      case pos =>
       subst e6
       have HC := Lib.hid (winside_spec HA2.out HB2.out (by have := HLN.out; omega) (by have := HLN.out; omega))
       rw [show insB (memL l (qa1, qa2)) (memL l (qb1, qb2)) = d from by rw [← HD.out]; rfl] at HC
       go_wp2_with fail
       refine HC.out.mono ?_
       rintro e w3 ⟨rfl, hk⟩
       have HE : Hid (KF W w3) := HKW.out.trans hk.out
       clear HC hk
       go_wp2_with fail
       go_ret
       exact ⟨rfl, HE⟩
      case neg =>
       have b6 : (qk == 6) = false := beq_eq_false_iff_ne.2 e6
       have he : Hid (d = false) := by show _ = _; rw [← HD.out, if_neg (by omega), if_neg e3, if_neg e4, if_neg e5, if_neg e6]
       go_wp2_with fail
       go_ret
       exact ⟨by rw [he.out]; rfl, HKW⟩
theorem win_spec {W : World} {v : Value} {F : List Stm} (h : RdK stmE W v F) (hF : F.length ≤ 90) (hk : ∀ y ∈ F, 1 ≤ y.2.1 ∧ y.2.1 ≤ 4) {wo : Option Addr} {wn wc : Nat} {q : Qry} (hq : ReadsS W (.slice wo wn wc) q.2.2.2) (hn : q.2.2.2.length ≤ 1000) :
 Calls Tryz.prog 35 #[v, qryV q (.slice wo wn wc)] W fun e W' => e = .returned (.bool (inF F q)) ∧ Hid (KF W W') := by
 obtain ⟨lo, lc, hv, _⟩ := id h
 obtain ⟨ln, hln⟩ : ∃ n : Nat, v = .slice lo n lc := ⟨_, hv⟩
 clear hv
 subst hln
 have HEV : Hid (∀ w, KF W w → Calls Tryz.prog 82 #[.slice lo ln lc] w fun e W' => ∃ v', e = .returned v' ∧ Hid (KF w W' ∧ ∃ l, RdK prE W' v' l ∧ EvI F l ∧ ShutP F l)) := fun w hkw => peval_spec (h.keeps hkw) hF hk
 have HSA : Hid (∀ w v' l, KF W w → RdK prE w v' l → EvI F l → ShutP F l → Calls Tryz.prog 81 #[v', qryV q (.slice wo wn wc)] w fun e W' => e = .returned (.bool (inF F q)) ∧ Hid (KF w W')) := fun w v' l hkw hv h1 h2 => by
  rw [← inF_eq hk h1 h2 q]
  exact wsat_spec hv (by have := h1.len; have := Nat.mul_le_mul hF hF; omega) (hq.keeps hkw) hn
 clear h hF hk hq hn
 obtain ⟨qk, ⟨qa1, qa2⟩, ⟨qb1, qb2⟩, qw⟩ := q
 obtain ⟨d, hd⟩ : ∃ d, inF F (qk, (qa1, qa2), (qb1, qb2), qw) = d := ⟨_, rfl⟩
 rw [hd] at HSA ⊢
 clear hd
 unfold qryV at HSA ⊢
 simp only at HSA ⊢
 obtain ⟨WA, hWA⟩ : ∃ q, W.alloc (bQ qk qa1 qa2 qb1 qb2 wo wn wc) = q := ⟨_, rfl⟩
 have hal := (MapKept.heap_alloc W (bQ qk qa1 qa2 qb1 qb2 wo wn wc)).1
 have HKWA : Hid (KF W WA) := by rw [← hWA]; exact (Keeps.refl _ _).alloc _
 rw [hWA] at hal
 obtain ⟨qb, hqb⟩ : ∃ q, W.heap.size = q := ⟨_, rfl⟩
 have HBqb := Lib.hid hqb
 rw [hqb] at hal
 have HAWA := Lib.hid hal
 clear hal
 obtain ⟨p0, f0, p1, f1, p2, f2, p3, f3, p4, f4, p5, f5⟩ := cf6 HAWA.out
 clear f0 f1 f2 f3 f4 f5
 go_enter Tryz.func35, Tryz.ntmps35
 go_upto_region 1 with fail
 (try simp only [hWA, hqb])
 clear hWA hqb
 have HMK1 : Hid (∀ w' : World, KF WA w' → w'.cell? ⟨qb, 0, none⟩ = some (.int .i64 qk) ∧ w'.cell? ⟨qb, 1, none⟩ = some (.string ⟨qa1.toArray⟩) ∧ w'.cell? ⟨qb, 2, none⟩ = some (.string ⟨qa2.toArray⟩) ∧ w'.cell? ⟨qb, 3, none⟩ = some (.string ⟨qb1.toArray⟩) ∧ w'.cell? ⟨qb, 4, none⟩ = some (.string ⟨qb2.toArray⟩) ∧ w'.cell? ⟨qb, 5, none⟩ = some (.slice wo wn wc)) := fun w' hk => ⟨kc hk p0, kc hk p1, kc hk p2, kc hk p3, kc hk p4, kc hk p5⟩
 have HKX1 : Hid (KF WA WA.drew) := (Keeps.refl _ _).drew
 have hS0 := HMK1.out _ HKX1.out
 clear p0 p1 p2 p3 p4 p5
 refine wp_region_noPanic ?_
 refine wp_region_held_drew (S := (fun w' => w'.cell? ⟨qb, 0, none⟩ = some (.int .i64 qk) ∧ w'.cell? ⟨qb, 1, none⟩ = some (.string ⟨qa1.toArray⟩) ∧ w'.cell? ⟨qb, 2, none⟩ = some (.string ⟨qa2.toArray⟩) ∧ w'.cell? ⟨qb, 3, none⟩ = some (.string ⟨qb1.toArray⟩) ∧ w'.cell? ⟨qb, 4, none⟩ = some (.string ⟨qb2.toArray⟩) ∧ w'.cell? ⟨qb, 5, none⟩ = some (.slice wo wn wc))) (by kernel_rfl) hS0 (fun hHeld => ?_)
 clear hS0
 generalize WA.drew = wA at *
 refine tk 0 rfl hHeld ?_
 refine tk 2 rfl hHeld ?_
 (try simp only [nz])
 refine on1 1 rfl fun KK hK => ?_
 go_simp
 refine (HEV.out _ (HKWA.out.trans HKX1.out)).mono ?_
 rintro e wB ⟨v2, rfl, hk⟩
 obtain ⟨l, hl1, hl2, hl3⟩ := hk.out.2
 have HSC := Lib.hid (HSA.out _ _ _ ((HKWA.out.trans HKX1.out).trans hk.out.1) hl1 hl2 hl3)
 clear hl1 hl2 hl3
 replace HKX1 := Lib.hid (HKX1.out.trans hk.out.1)
 clear hk 
 go_simp
 refine hK.out _ _ (HMK1.out _ HKX1.out) fun hHeld => ?_
 clear hK KK
 (try simp only [nz])
 refine on1 3 rfl fun KK hK => ?_
 go_simp
 refine (HSC.out).mono ?_
 rintro e wC ⟨rfl, hk⟩
 replace HKX1 := Lib.hid (HKX1.out.trans hk.out)
 clear hk 
 go_simp
 refine hK.out _ _ (HMK1.out _ HKX1.out) fun hHeld => ?_
 clear hK KK
 (try simp only [nz])
 refine on1 4 rfl fun KK hK => ?_
 go_simp
 refine hK.out _ _ (HMK1.out _ HKX1.out) fun hHeld => ?_
 clear hK KK
 (try simp only [nz])
 refine wpAnyH_done (by kernel_rfl) ?_ _
 refine NoPanic.normal ?_
 clear hHeld HMK1
 have HE : Hid (KF W wC) := HKWA.out.trans HKX1.out
 clear HKX1
 go_wp2_with fail
 go_ret
 exact ⟨rfl, HE⟩
end Go.Proofs.YtckikkkdabpjkaaGreat
