/-
 One round of what counts: the program's.
-/
import Derived.Test.YtckikkkdabpjkaaGreatMC
import Derived.Test.YtckikkkdabpjkaaGreatRelevFol
import Derived.Test.YtckikkkdabpjkaaGreatMH
import Derived.Test.YtckikkkdabpjkaaGreatMZ
import Derived.Test.YtckikkkdabpjkaaGreatPolPrinsP
import Derived.Test.YtckikkkdabpjkaaGreatKitSq
set_option linter.unusedVariables false
set_option linter.unusedSimpArgs false
set_option linter.unnecessarySimpa false
namespace Go.Proofs.YtckikkkdabpjkaaGreat
open Go.ChangeShapes Go.WideShapes Go.ChangeAt Go.RowKit Go.Deep
theorem str_one (x : Str) : ∀ v ∈ [encStr x], v.oneCell' = true := fun v hv => by
 rw [List.mem_singleton.1 hv]
 rfl
/-- Texts, as elements of a row. -/
def strE : Elt Str where
 enc := fun x => [encStr x]
 k := 1
 pos := by decide
 len := fun _ => rfl
 one := str_one
 T := 9
 S := 29
 z := .string ⟨#[]⟩
 bytes := 16
 hS := Tryz.underlying29
 hT := sinfo
 hz := rfl
 hb := by decide
theorem flat_str (l : List Str) : flat strE l = sCells l := by
 induction l with
 | nil => rfl
 | cons x l ih =>
  unfold flat sCells at *
  simp only [List.map_cons, List.flatten_cons, ih]
  rfl
theorem ownK_str {base : Nat} {w : World} {v : Value} {l : List Str} : OwnK strE base w v l ↔ OwnS base w v l := by
 unfold OwnK OwnS
 rw [flat_str]
 exact Iff.rfl
theorem srcK_str {w : World} {v : Value} {l : List Str} (h : SrcS w v l) : SrcK strE w v l := by
 obtain ⟨⟨ao, cap, rfl, hle, hr⟩, hn⟩ := h
 refine ⟨⟨ao, cap, rfl, hle, fun h0 => ?_⟩, hn⟩
 obtain ⟨g, off, q1, q2, q3⟩ := hr h0
 refine ⟨g, off, q1, q2, fun j x hj i u hu => ?_⟩
 match i, hu with
 | 0, hu =>
  have e : u = encStr x := by simpa [strE] using hu.symm
  rw [e, show off + j * strE.k + 0 = off + j by show off + j * 1 + 0 = _; omega]
  exact q3 j x hj
 | i + 1, hu => simp [strE] at hu
/-- Rows of roles and of texts lie in other blocks. -/
theorem own_apart {b1 b2 : Nat} {w : World} {u v : Value} {R : List Rol} {Lk : List Str} (h1 : OwnK rolE b1 w u R) (h2 : OwnK strE b2 w v Lk) : ∀ k, u.ownBlock = some k → v.ownBlock ≠ some k := fun k hk hk2 => by
 rcases h1.form with ⟨rfl, _⟩ | ⟨g, cap, cur, rfl, _, hh, _⟩
 ·simp [Value.ownBlock] at hk
 ·rcases h2.form with ⟨rfl, _⟩ | ⟨g2, cap2, cur2, rfl, _, hh2, _⟩
  ·simp [Value.ownBlock] at hk2
  ·simp only [Value.ownBlock, Option.map_some, Option.some.injEq] at hk hk2
   subst hk
   subst hk2
   rw [hh] at hh2
   have := Option.some.inj hh2
   simp only [Obj.cells.injEq] at this
   exact absurd this.2.1 (by decide)
theorem sortO_len2 {α : Type} (lt : α → α → Prop) [DecidableRel lt] [DecidableEq α] (l : List α) : (sortO lt l).length ≤ l.length := by
 have key : ∀ (l a : List α), (l.foldl (putO lt) a).length ≤ a.length + l.length := by
  intro l
  induction l with
  | nil => intro a; simp
  | cons x l ih =>
   intro a
   have h1 := ih (putO lt a x)
   have h2 : (putO lt a x).length ≤ a.length + 1 := by
    unfold putO
    split
    ·omega
    ·have := ahead_le (lt := lt) x a
     simp only [List.length_append, List.length_take, List.length_drop, List.length_cons, List.length_nil]
     omega
   simp only [List.foldl_cons, List.length_cons]
   omega
 have := key l []
 rw [List.length_nil, Nat.zero_add] at this
 exact this
/-- What lies behind the first of a row. -/
theorem SrcK.tail {α : Type} {E : Elt α} {w : World} {g off n cap : Nat} {y : α} {l : List α} (h : RdK E w (.slice (some ⟨g, off, none⟩) n cap) (y :: l)) : SrcK E w (.slice (some ⟨g, off + E.k, none⟩) (n - 1) (cap - 1)) l := by
 obtain ⟨ao, cp, e, hle, hr⟩ := h
 simp only [Value.slice.injEq] at e
 obtain ⟨rfl, rfl, rfl⟩ := e
 obtain ⟨g', off', q1, q2, q3⟩ := hr (by simp)
 simp only [Option.some.injEq, Addr.mk.injEq, and_true] at q1
 obtain ⟨rfl, rfl⟩ := q1
 simp only [List.length_cons] at hle ⊢
 refine ⟨⟨_, cap - 1, by rw [Nat.add_sub_cancel], by omega, fun h0 => ⟨g, off + E.k, rfl, q2, fun j x hj i u hu => ?_⟩⟩, fun n c e => by simp at e⟩
 have q := q3 (j + 1) x (by simpa using hj) i u hu
 rw [show off + E.k + j * E.k + i = off + (j + 1) * E.k + i by rw [Nat.add_mul, Nat.one_mul]; omega]
 exact q
/-- Where a maker stands: its block, its rows. -/
structure MkI (W0 W : World) (mb : Nat) (av bv cv jv rv lv : Value) (R : List Rol) (Lk : List Str) : Prop where
 K : KF W0 W
 hb : W0.heap.size ≤ mb
 M : W.heap[mb]? = some (.cells #[rv, lv, .slice none 0 0, .slice none 0 0, .slice none 0 0, .slice none 0 0, .bool false, av, bv, cv, jv] 118)
 R : OwnK rolE (mb + 1) W rv R
 L : OwnK strE (mb + 1) W lv Lk
theorem MkI.keeps {W0 W W' : World} {mb : Nat} {av bv cv jv rv lv : Value} {R : List Rol} {Lk : List Str} (h : MkI W0 W mb av bv cv jv rv lv R Lk) (hk : KF W W') : MkI W0 W' mb av bv cv jv rv lv R Lk :=
 ⟨h.K.trans hk, h.hb, (hk.block _ (lt_of_heap h.M) (fun x => x)).trans h.M, h.R.keeps hk (fun _ _ x => x), h.L.keeps hk (fun _ _ x => x)⟩
theorem moreS_roles (y : Stm) : rolesS y = y.1 :: moreS y := rfl
theorem moreS_len (y : Stm) : (moreS y).length ≤ 2 := by unfold moreS; split <;> split <;> simp
theorem addR_len1 (R : List Rol) (y : Stm) : (addR R y).length ≤ R.length + 2 := by
 unfold addR
 refine Nat.le_trans (sortO_len2 rolLt _) ?_
 have := moreS_len y
 rw [List.length_append]
 omega
theorem addL_len1 (Lk : List Str) (y : Stm) : (addL Lk y).length ≤ Lk.length + 1 := by
 unfold addL
 refine Nat.le_trans (tab_len _) ?_
 have : (viaS y).length ≤ 1 := by unfold viaS; split <;> simp
 rw [List.length_append]
 omega
theorem addR_fold : ∀ (l : List Stm) (R : List Rol), (l.foldl addR R).length ≤ R.length + 2 * l.length
 | [], R => by simp
 | y :: l, R => by
  have h1 := addR_fold l (addR R y)
  have h2 := addR_len1 R y
  simp only [List.foldl_cons, List.length_cons]
  omega
theorem addL_fold : ∀ (l : List Stm) (Lk : List Str), (l.foldl addL Lk).length ≤ Lk.length + l.length
 | [], Lk => by simp
 | y :: l, Lk => by
  have h1 := addL_fold l (addL Lk y)
  have h2 := addL_len1 Lk y
  simp only [List.foldl_cons, List.length_cons]
  omega
theorem addR_len {F : List Stm} {R : List Rol} (hF : F.length ≤ 100) (h : R.length ≤ 9000) (i : Nat) : ((F.take i).foldl addR R).length ≤ 9300 := by
 have := addR_fold (F.take i) R
 have := List.length_take_le i F
 have : (F.take i).length ≤ F.length := by rw [List.length_take]; omega
 omega
theorem addL_len {F : List Stm} {Lk : List Str} (hF : F.length ≤ 100) (h : Lk.length ≤ 9000) (i : Nat) : ((F.take i).foldl addL Lk).length ≤ 9300 := by
 have := addL_fold (F.take i) Lk
 have : (F.take i).length ≤ F.length := by rw [List.length_take]; omega
 omega
theorem addL_rises : ∀ (l : List Stm) {Lk : List Str}, Lk.Pairwise (· < ·) → (l.foldl addL Lk).Pairwise (· < ·)
 | [], _, h => h
 | y :: l, _, _ => addL_rises l (tab_rises _)
set_option maxRecDepth 100000
set_option maxHeartbeats 6400000
/-- The roles that a statement looks at, behind its head. -/
theorem sroles_form {W : World} (y : Stm) : Calls Tryz.prog 169 #[stmV y] W fun e W' => ∃ (gz oz nz cz : Nat), e = .returned (.slice (some ⟨gz, oz, none⟩) nz cz) ∧ Hid ((1 ≤ nz ∧ nz ≤ 3 ∧ nz ≤ cz ∧ SrcK rolE W' (.slice (if cz = 1 then some ⟨gz, oz, none⟩ else some ⟨gz, oz + 2, none⟩) (nz - 1) (cz - 1)) (moreS y)) ∧ KF W W') :=
 (sroles_spec y).mono fun e W' ⟨v, q1, q2⟩ => by
  obtain ⟨⟨ao, cap, hv, hle, hr⟩, hn⟩ := id q2.out.1
  have h3 := rolesS_len y
  have hpos : 0 < (rolesS y).length := by rw [moreS_roles]; simp
  obtain ⟨g, off, rfl, _⟩ := hr hpos
  refine ⟨g, off, (rolesS y).length, cap, by rw [q1, hv], ⟨hpos, h3, hle, ?_⟩, q2.out.2⟩
  have q := q2.out.1.1
  rw [hv, moreS_roles] at q
  rw [moreS_roles] at hle ⊢
  simp only [List.length_cons] at hle q ⊢
  by_cases hc : cap = 1
  ·rw [if_pos hc]
   subst hc
   obtain hm : (moreS y) = [] := List.eq_nil_of_length_eq_zero (by omega)
   rw [hm]
   exact srcK_empty _ _ _
  ·rw [if_neg hc]
   exact SrcK.tail q
theorem more_spec {W0 W : World} {mb : Nat} {ao bo co jo : Option Addr} {an ac bn bc cn cc jn jc : Nat} {ro lo : Option Addr} {rn rc ln lc : Nat} {R0 gr sh : List Rol} {L0 : List Str} {st : List Stm} (hm : MkI W0 W mb (.slice ao an ac) (.slice bo bn bc) (.slice co cn cc) (.slice jo jn jc) (.slice ro rn rc) (.slice lo ln lc) R0 L0) (ha : SrcK stmE W0 (.slice ao an ac) st) (hg : RdK rolE W0 (.slice bo bn bc) gr) (hs : RdK rolE W0 (.slice co cn cc) sh) (h1 : R0.length ≤ 9000) (h2 : L0.length ≤ 9000) (h3 : gr.length ≤ 100000) (h4 : sh.length ≤ 100000) (h5 : st.length ≤ 100) (hls : L0.Pairwise (· < ·)) :
 Calls Tryz.prog 113 #[.pointer (some ⟨mb, 0, none⟩)] W fun e W' => ∃ rv lv, e = .returned (.bool (decide (R0.length + L0.length < ((st.filter (folB gr sh R0 L0)).foldl addR R0).length + ((st.filter (folB gr sh R0 L0)).foldl addL L0).length))) ∧ Hid (MkI W0 W' mb (.slice ao an ac) (.slice bo bn bc) (.slice co cn cc) (.slice jo jn jc) rv lv ((st.filter (folB gr sh R0 L0)).foldl addR R0) ((st.filter (folB gr sh R0 L0)).foldl addL L0)) := by
 have HF := Lib.hid (fun (w : World) (hk : KF W w) => followed_spec ((hk.block _ (lt_of_heap hm.M) (fun x => x)).trans hm.M) (hm.R.reads.keeps hk) ((ownK_str.1 hm.L).reads.keeps hk) (ha.keeps (hm.K.trans hk)) (hg.keeps (hm.K.trans hk)) (hs.keeps (hm.K.trans hk)) (by omega) (by omega) h3 h4 (by omega))
 have hfl : (st.filter (folB gr sh R0 L0)).length ≤ 100 := Nat.le_trans (List.length_filter_le _ _) h5
 obtain ⟨F, hFe⟩ : ∃ F, (st.filter (folB gr sh R0 L0)) = F := ⟨_, rfl⟩
 rw [hFe] at HF hfl ⊢
 clear hFe ha hg hs h3 h4 h5
 obtain ⟨aoR, cpR, eR, hleR, _⟩ := id hm.R.reads
 obtain ⟨aoL, cpL, eL, hleL, _⟩ := id (ownK_str.1 hm.L).reads
 simp only [Value.slice.injEq] at eR eL
 obtain ⟨rfl, hrn, rfl⟩ := eR
 obtain ⟨rfl, hln, rfl⟩ := eL
 have HRL : Hid (rn = R0.length ∧ ln = L0.length) := ⟨hrn, hln⟩
 have HFI0 : Hid (∀ a b : Nat, decide ((rn : Int) + (ln : Int) < (a : Int) + (b : Int)) = decide (R0.length + L0.length < a + b)) := fun a b => by simp only [decide_eq_decide]; omega
 have HM := Lib.hid hm
 have hrn2 : rn ≤ 9000 := by omega
 have hln2 : ln ≤ 9000 := by omega
 obtain ⟨m0, n0, m1, n1, m2, n2, m3, n3, m4, n4, m5, n5, m6, n6, m7, n7, m8, n8, m9, n9, m10, n10⟩ := cf11 hm.M
 clear n0 n1 n2 n3 n4 n5 n6 n7 n8 n9 n10 hm hrn hln hleR hleL
 have hwas : IntKind.i64.wrap ((rn : Int) + (ln : Int)) = ((rn + ln : Nat) : Int) := (IntWalk.i64_in _ (by omega)).trans (by omega)
 go_enter Tryz.func113, Tryz.ntmps113
 go_upto_region 1 with fail
 have HMK1 : Hid (∀ w' : World, KF W w' → w'.cell? ⟨mb, 0, none⟩ = some (.slice ro rn rc) ∧ w'.cell? ⟨mb, 1, none⟩ = some (.slice lo ln lc)) := fun w' hk => ⟨kc hk m0, kc hk m1⟩
 have HKX1 : Hid (KF W W.drew) := (Keeps.refl _ _).drew
 have hS0 := HMK1.out _ HKX1.out
 clear m0 m1
 refine wp_region_noPanic ?_
 refine wp_region_held_drew (S := (fun w' => w'.cell? ⟨mb, 0, none⟩ = some (.slice ro rn rc) ∧ w'.cell? ⟨mb, 1, none⟩ = some (.slice lo ln lc))) (by kernel_rfl) hS0 (fun hHeld => ?_)
 clear hS0
 generalize W.drew = w1 at *
 refine tk 0 rfl hHeld ?_
 refine tk 6 rfl hHeld ?_
 refine tk 1 rfl hHeld ?_
 (try simp only [nz])
 refine tk 2 rfl hHeld ?_
 refine tk 3 rfl hHeld ?_
 refine tk 4 rfl hHeld ?_
 (try simp only [nz])
 refine tk 5 rfl hHeld ?_
 refine tk 7 rfl hHeld ?_
 refine tk 8 rfl hHeld ?_
 (try simp only [nz])
 refine tk 9 rfl hHeld ?_
 refine tk 10 rfl hHeld ?_
 refine tk 11 rfl hHeld ?_
 (try simp only [nz])
 refine tk 12 rfl hHeld ?_
 (try simp only [nz])
 refine on1 13 rfl fun KK hK => ?_
 go_simp
 refine hK.out _ _ (HMK1.out _ HKX1.out) fun hHeld => ?_
 clear hK KK
 (try simp only [nz])
 refine wpAnyH_done (by kernel_rfl) ?_ _
 refine NoPanic.normal ?_
 clear hHeld HMK1
 clear m2 m3 m4 m5 m6 m7 m8 m9 m10
 have HK1 := HKX1
 have HM1 := Lib.hid (HM.out.keeps HKX1.out)
 clear HKX1
 go_upto_region 2 with fail
 go_wp2_with fail
 refine (HF.out _ HK1.out).mono ?_
 rintro e w2 ⟨fv, rfl, hf⟩
 have HM2 := Lib.hid (HM1.out.keeps hf.out.2)
 obtain ⟨aoF, cpF, hvF, hleF, _⟩ := id hf.out.1.1.1
 subst hvF
 obtain ⟨nF, hnF⟩ : ∃ n, F.length = n := ⟨_, rfl⟩
 have hfx := hf.out.1
 have hsz := hf.out.2.size
 rw [hnF] at hfx hleF hfl
 have HNF := Lib.hid hnF
 have HFX : Hid (RdX stmE w2 (.slice aoF nF cpF) F (fun k => (.slice ro rn rc : Value).ownBlock ≠ some k ∧ (.slice lo ln lc : Value).ownBlock ≠ some k ∧ k ≠ mb)) := hfx.into (Keeps.refl (fun _ => False) _) (fun _ _ _ x => x) (fun k hk hp => by
  have hp : w1.heap.size ≤ k := hp
  refine ⟨fun e => ?_, fun e => ?_, fun e => ?_⟩
  ·have := own_lt HM1.out.R k e
   omega
  ·have := own_lt HM1.out.L k e
   omega
  ·have := lt_of_heap HM1.out.M
   omega)
 rw [hnF]
 clear HF HK1 HM1 hf hfx hnF hsz HM
 go_wp2_with fail
 go_loopg [22] nF (fun g t wx => ∃ (i : Nat) (ro lo : Option Addr) (rn rc ln lc : Nat), i ≤ nF ∧ g = nF - i ∧ t = .int .i64 i ∧ Hid ((MkI W0 wx mb (.slice ao an ac) (.slice bo bn bc) (.slice co cn cc) (.slice jo jn jc) (.slice ro rn rc) (.slice lo ln lc) ((F.take i).foldl addR R0) ((F.take i).foldl addL L0)) ∧ RdX stmE wx (.slice aoF nF cpF) F (fun k => (.slice ro rn rc : Value).ownBlock ≠ some k ∧ (.slice lo ln lc : Value).ownBlock ≠ some k ∧ k ≠ mb)))
 case atStart => exact ⟨0, ro, lo, rn, rc, ln, lc, Nat.zero_le _, rfl, rfl, HM2.out, HFX.out⟩
 case round =>
  clear HM2 HFX
  obtain ⟨i, ro, lo, rn, rc, ln, lc, hi, rfl, rfl, HI⟩ := hrel
  by_cases hlt : i < nF
  ·skip
   have hiI : (i : Int) < (nF : Int) := by omega
   have hwi : IntKind.i64.wrap ((i : Int) + 1) = (i : Int) + 1 := IntWalk.i64_in _ (by omega)
   have hicap : i < cpF := by omega
   obtain ⟨y, hy⟩ : ∃ y, F[i]? = some y := ⟨_, List.getElem?_eq_getElem (by rw [HNF.out]; exact hlt)⟩
   obtain ⟨aoz, cpz, ez, hez, hrz⟩ := id HI.out.2.1.1
   obtain ⟨g, off, hao, hg, hcc⟩ := hrz (by rw [HNF.out]; omega)
   simp only [Value.slice.injEq] at ez
   obtain ⟨rfl, hzz, rfl⟩ := ez
   subst hao
   have hc := hcc i y hy
   have HY := Lib.hid hy
   obtain ⟨⟨yh1, yh2⟩, yk, yo, ⟨ya1, ya2⟩, ⟨yb1, yb2⟩, yi⟩ := y
   clear hcc hrz hez hzz hy
   obtain ⟨c0, c1, c2, c3, c4, c5, c6, c7, c8⟩ := n9 hc
   have hal := (MapKept.heap_alloc wr (bM yk yh1 yh2 yo ya1 ya2 yb1 yb2 yi)).1
   have hka : KF wr (wr.alloc (bM yk yh1 yh2 yo ya1 ya2 yb1 yb2 yi)) := (Keeps.refl _ _).alloc _
   obtain ⟨b, hb⟩ : ∃ b, wr.heap.size = b := ⟨_, rfl⟩
   rw [hb] at hal
   have HB := Lib.hid hal
   have HMI := Lib.hid (HI.out.1.keeps hka)
   have HFI := Lib.hid (HI.out.2.keeps hka (fun _ _ _ x => x))
   have HLT : Hid ((∀ k, (.slice ro rn rc : Value).ownBlock = some k → k < b) ∧ (∀ k, (.slice lo ln lc : Value).ownBlock = some k → k < b) ∧ mb < b) := ⟨fun k hk => by have := own_lt HI.out.1.R k hk; omega, fun k hk => by have := own_lt HI.out.1.L k hk; omega, by have := lt_of_heap HI.out.1.M; omega⟩
   obtain ⟨R1, hR1⟩ : ∃ R1, ((F.take i).foldl addR R0) = R1 := ⟨_, rfl⟩
   obtain ⟨L1, hL1⟩ : ∃ L1, ((F.take i).foldl addL L0) = L1 := ⟨_, rfl⟩
   have HNR : Hid (((F.take (i + 1)).foldl addR R0) = addR R1 ((yh1, yh2), yk, yo, (ya1, ya2), (yb1, yb2), yi)) := by
    show _ = _
    rw [List.take_add_one, HY.out, ← hR1, List.foldl_append]
    rfl
   have HNL : Hid (((F.take (i + 1)).foldl addL L0) = addL L1 ((yh1, yh2), yk, yo, (ya1, ya2), (yb1, yb2), yi)) := by
    show _ = _
    rw [List.take_add_one, HY.out, ← hL1, List.foldl_append]
    rfl
   have hR1l : R1.length ≤ 9300 := by rw [← hR1]; exact addR_len (by rw [HNF.out]; exact hfl) h1 i
   have hL1l : L1.length ≤ 9300 := by rw [← hL1]; exact addL_len (by rw [HNF.out]; exact hfl) h2 i
   have HLS : Hid (L1.Pairwise (· < ·)) := by rw [← hL1]; exact addL_rises _ hls
   rw [hR1, hL1] at HMI
   clear hR1 hL1
   have HRS := Lib.hid (fun w : World => sroles_form (W := w) ((yh1, yh2), yk, yo, (ya1, ya2), (yb1, yb2), yi))
   go_upto_region 5 with fail
   clear hal hka hb HI hc c0 c1 c2 c3 c4 c5 c6 c7 c8
   generalize wr.alloc (bM yk yh1 yh2 yo ya1 ya2 yb1 yb2 yi) = w3 at *
   go_cut [22] from 22 to 58 (fun t wx => t = .int .i64 i ∧ ∃ (ro2 : Option Addr) (rn2 rc2 : Nat), Hid ((MkI W0 wx mb (.slice ao an ac) (.slice bo bn bc) (.slice co cn cc) (.slice jo jn jc) (.slice ro2 rn2 rc2) (.slice lo ln lc) (addR R1 ((yh1, yh2), yk, yo, (ya1, ya2), (yb1, yb2), yi)) L1) ∧ RdX stmE wx (.slice (some ⟨g, off, none⟩) nF cpF) F (fun k => (.slice ro2 rn2 rc2 : Value).ownBlock ≠ some k ∧ (.slice lo ln lc : Value).ownBlock ≠ some k ∧ k ≠ mb) ∧ wx.heap[b]? = some (bM yk yh1 yh2 yo ya1 ya2 yb1 yb2 yi)))
   case first =>
    obtain ⟨p0, f0, p1, f1, p2, f2, p3, f3, p4, f4, p5, f5, p6, f6, p7, f7, p8, f8⟩ := cf9 HB.out
    clear f0 f1 f2 f3 f4 f5 f6 f7 f8
    have HMK16 : Hid (∀ w' : World, Keeps (fun q => (.slice ro rn rc : Value).ownBlock = some q) w3 w' → w'.cell? ⟨b, 0, none⟩ = some (.int .i64 yk) ∧ w'.cell? ⟨b, 1, none⟩ = some (.string ⟨yh1.toArray⟩) ∧ w'.cell? ⟨b, 2, none⟩ = some (.string ⟨yh2.toArray⟩) ∧ w'.cell? ⟨b, 3, none⟩ = some (.string ⟨yo.toArray⟩) ∧ w'.cell? ⟨b, 4, none⟩ = some (.string ⟨ya1.toArray⟩) ∧ w'.cell? ⟨b, 5, none⟩ = some (.string ⟨ya2.toArray⟩) ∧ w'.cell? ⟨b, 6, none⟩ = some (.string ⟨yb1.toArray⟩) ∧ w'.cell? ⟨b, 7, none⟩ = some (.string ⟨yb2.toArray⟩) ∧ w'.cell? ⟨b, 8, none⟩ = some (.string ⟨yi.toArray⟩)) := fun w' hk => ⟨(hk.cell (p := ⟨b, 0, none⟩) (World.block_lt_of_cell? _ _ p0) (fun e => by have := HLT.out.1 b e; omega)).trans p0, (hk.cell (p := ⟨b, 1, none⟩) (World.block_lt_of_cell? _ _ p1) (fun e => by have := HLT.out.1 b e; omega)).trans p1, (hk.cell (p := ⟨b, 2, none⟩) (World.block_lt_of_cell? _ _ p2) (fun e => by have := HLT.out.1 b e; omega)).trans p2, (hk.cell (p := ⟨b, 3, none⟩) (World.block_lt_of_cell? _ _ p3) (fun e => by have := HLT.out.1 b e; omega)).trans p3, (hk.cell (p := ⟨b, 4, none⟩) (World.block_lt_of_cell? _ _ p4) (fun e => by have := HLT.out.1 b e; omega)).trans p4, (hk.cell (p := ⟨b, 5, none⟩) (World.block_lt_of_cell? _ _ p5) (fun e => by have := HLT.out.1 b e; omega)).trans p5, (hk.cell (p := ⟨b, 6, none⟩) (World.block_lt_of_cell? _ _ p6) (fun e => by have := HLT.out.1 b e; omega)).trans p6, (hk.cell (p := ⟨b, 7, none⟩) (World.block_lt_of_cell? _ _ p7) (fun e => by have := HLT.out.1 b e; omega)).trans p7, (hk.cell (p := ⟨b, 8, none⟩) (World.block_lt_of_cell? _ _ p8) (fun e => by have := HLT.out.1 b e; omega)).trans p8⟩
    have HKX16 : Hid (KF w3 w3.drew) := (Keeps.refl _ _).drew
    have hS0 := HMK16.out _ (HKX16.out.mono (fun _ _ z => z.elim))
    clear p0 p1 p2 p3 p4 p5 p6 p7 p8
    refine wp_region_noPanic ?_
    refine wp_region_held_drew (S := (fun w' => w'.cell? ⟨b, 0, none⟩ = some (.int .i64 yk) ∧ w'.cell? ⟨b, 1, none⟩ = some (.string ⟨yh1.toArray⟩) ∧ w'.cell? ⟨b, 2, none⟩ = some (.string ⟨yh2.toArray⟩) ∧ w'.cell? ⟨b, 3, none⟩ = some (.string ⟨yo.toArray⟩) ∧ w'.cell? ⟨b, 4, none⟩ = some (.string ⟨ya1.toArray⟩) ∧ w'.cell? ⟨b, 5, none⟩ = some (.string ⟨ya2.toArray⟩) ∧ w'.cell? ⟨b, 6, none⟩ = some (.string ⟨yb1.toArray⟩) ∧ w'.cell? ⟨b, 7, none⟩ = some (.string ⟨yb2.toArray⟩) ∧ w'.cell? ⟨b, 8, none⟩ = some (.string ⟨yi.toArray⟩))) (by kernel_rfl) hS0 (fun hHeld => ?_)
    clear hS0
    generalize w3.drew = w4 at *
    refine tk 0 rfl hHeld ?_
    refine tk 1 rfl hHeld ?_
    refine tk 6 rfl hHeld ?_
    (try simp only [nz])
    refine tk 2 rfl hHeld ?_
    refine tk 3 rfl hHeld ?_
    refine tk 4 rfl hHeld ?_
    (try simp only [nz])
    refine wpAnyH_two (i := 5) (j := 7) (by kernel_rfl) rfl rfl (fun KK hK => ?pA) (fun KK hK => ?pB)
    case pA =>
     have m0 : w4.cell? ⟨mb, 0, none⟩ = some (.slice ro rn rc) := ((HKX16).out.cell (p := ⟨mb, 0, none⟩) (lt_of_heap HMI.out.M) (fun x => x)).trans (cf11 HMI.out.M).1
     go_simp
     refine hK.out _ _ (HMK16.out _ (HKX16.out.mono (fun _ _ z => z.elim))) fun hHeld => ?_
     clear hK KK
     (try simp only [nz])
     clear m0
     refine on1 7 rfl fun KK hK => ?_
     go_simp
     refine (HRS.out _).mono ?_
     rintro e w5 ⟨gz, oz, nz, cz, rfl, hk⟩
     obtain ⟨hz1, hz3, hzc, hsz⟩ := hk.out.1
     have HSZ := Lib.hid hsz
     have hz1I : (1 : Int) ≤ (nz : Int) := by omega
     clear hsz
     replace HKX16 := Lib.hid (HKX16.out.trans hk.out.2)
     clear hk HRS
     go_simp
     refine hK.out _ _ (HMK16.out _ (HKX16.out.mono (fun _ _ z => z.elim))) fun hHeld => ?_
     clear hK KK
     (try simp only [nz])
     refine on1 8 rfl fun KK hK => ?_
     go_simp
     refine hK.out _ _ (HMK16.out _ (HKX16.out.mono (fun _ _ z => z.elim))) fun hHeld => ?_
     clear hK KK
     (try simp only [nz])
     refine on1 9 rfl fun KK hK => ?_
     have hlo : mb + 1 ≤ w5.heap.size := by have := HKX16.out.size; have := lt_of_heap HMI.out.M; omega
     refine step_app_k (E := rolE) rfl (.tmp 31) (.tmp 34) rfl (mb + 1) (.slice ro rn rc) R1 (by simp [Act.eval, Act.put] <;> rfl) (HMI.out.R.keeps HKX16.out (fun _ _ x => x)) _ (moreS ((yh1, yh2), yk, yo, (ya1, ya2), (yb1, yb2), yi)) (by simp [Act.eval, Act.put] <;> rfl) HSZ.out (by have := moreS_len ((yh1, yh2), yk, yo, (ya1, ya2), (yb1, yb2), yi); omega) hlo ?_
     intro v6 w6 ho hk
     have HKG26 : Hid (Keeps (fun q => (.slice ro rn rc : Value).ownBlock = some q) _ _) := (HKX16.out.mono (fun _ _ z => z.elim)).trans (hk)
     have HSR := Lib.hid (rsort_own ho.src (by have := moreS_len ((yh1, yh2), yk, yo, (ya1, ya2), (yb1, yb2), yi); rw [List.length_append]; omega))
     have HZ6 : Hid (b < w6.heap.size ∧ w3.heap.size ≤ w6.heap.size) := by have := HKG26.out.size; have := lt_of_heap HB.out; exact ⟨by omega, by omega⟩
     clear hlo ho hk HSZ HKX16
     go_simp
     refine hK.out _ _ (HMK16.out _ HKG26.out) fun hHeld => ?_
     clear hK KK
     (try simp only [nz])
     refine on1 10 rfl fun KK hK => ?_
     go_simp
     refine HSR.out.mono ?_
     rintro e w7 ⟨v7, rfl, hk⟩
     have HO7 : Hid (OwnK rolE w6.heap.size w7 v7 (addR R1 ((yh1, yh2), yk, yo, (ya1, ya2), (yb1, yb2), yi))) := hk.out.2
     replace HKG26 := Lib.hid (HKG26.out.trans (hk.out.1.mono (fun _ _ z => z.elim)))
     obtain ⟨ro7, rc7, hv7, _⟩ := id HO7.out.reads
     obtain ⟨rn7, hrn7⟩ : ∃ n, (addR R1 ((yh1, yh2), yk, yo, (ya1, ya2), (yb1, yb2), yi)).length = n := ⟨_, rfl⟩
     rw [hrn7] at hv7
     subst hv7
     clear hk HSR hrn7
     go_simp
     refine hK.out _ _ (HMK16.out _ HKG26.out) fun hHeld => ?_
     clear hK KK
     refine tk 11 rfl hHeld ?_
     refine tk 12 rfl hHeld ?_
     (try simp only [nz])
     refine tk 13 rfl hHeld ?_
     (try simp only [nz])
     refine on1 14 rfl fun KK hK => ?_
     have hM7 := (HKG26.out.block _ (lt_of_heap HMI.out.M) (fun e => by have := own_block HMI.out.R mb e; omega)).trans HMI.out.M
     have m0 := (cf11 hM7).1
     have n0 := (cf11 hM7).2.1
     have hkE : Keeps (fun q => q = mb) w7 (w7.setCell ⟨mb, 0, none⟩ (.slice ro7 rn7 rc7)) := Keeps.setCell (S := fun q => q = mb) (Keeps.refl _ _) (p := ⟨mb, 0, none⟩) (fun _ => rfl) _
     have hbE := (hkE.block b (lt_of_heap ((HKG26.out.block b (lt_of_heap HB.out) (fun e => by have := HLT.out.1 b e; omega)).trans HB.out)) (by show ¬ _ = _; have := HLT.out.2.2; omega)).trans ((HKG26.out.block b (lt_of_heap HB.out) (fun e => by have := HLT.out.1 b e; omega)).trans HB.out)
     have HE : Hid ((MkI W0 (w7.setCell ⟨mb, 0, none⟩ (.slice ro7 rn7 rc7)) mb (.slice ao an ac) (.slice bo bn bc) (.slice co cn cc) (.slice jo jn jc) (.slice ro7 rn7 rc7) (.slice lo ln lc) (addR R1 ((yh1, yh2), yk, yo, (ya1, ya2), (yb1, yb2), yi)) L1) ∧ RdX stmE (w7.setCell ⟨mb, 0, none⟩ (.slice ro7 rn7 rc7)) (.slice (some ⟨g, off, none⟩) nF cpF) F (fun k => (.slice ro7 rn7 rc7 : Value).ownBlock ≠ some k ∧ (.slice lo ln lc : Value).ownBlock ≠ some k ∧ k ≠ mb) ∧ (w7.setCell ⟨mb, 0, none⟩ (.slice ro7 rn7 rc7)).heap[b]? = some (bM yk yh1 yh2 yo ya1 ya2 yb1 yb2 yi)) := by
      have h6 := HZ6.out
      have hlt := HLT.out.2.2
      have hF7 : RdX stmE w7 (.slice (some ⟨g, off, none⟩) nF cpF) F (fun k => k < w3.heap.size ∧ (.slice ro rn rc : Value).ownBlock ≠ some k ∧ (.slice lo ln lc : Value).ownBlock ≠ some k ∧ k ≠ mb) := HFI.out.into HKG26.out (fun q hq hp e => hp.1 e) (fun q hq hp => ⟨hq, hp⟩)
      refine ⟨⟨(HMI.out.K.trans_new HKG26.out (fun q hq e => by have := own_block HMI.out.R q e; have := HMI.out.hb; omega)).trans_new hkE (fun q hq e => by have e : q = mb := e; have := HMI.out.hb; omega), HMI.out.hb, heap_set hM7 0 _, (HO7.out.base (by omega)).keeps hkE (fun q hq e => by have e : q = mb := e; omega), ?_⟩, hF7.into hkE (fun q hq hp e => hp.2.2.2 e) (fun q hq hp => ⟨fun e => by have := own_block HO7.out q e; have := hp.1; omega, hp.2.2⟩), hbE⟩
      have q1 : OwnK strE (mb + 1) w7 (.slice lo ln lc) L1 := ownsRow_keeps' HMI.out.L HKG26.out (fun q hq e => own_apart HMI.out.R HMI.out.L q e hq)
      exact q1.keeps hkE (fun q hq e => by have e : q = mb := e; omega)
     have hS : (w7.setCell ⟨mb, 0, none⟩ (.slice ro7 rn7 rc7)).cell? ⟨b, 0, none⟩ = some (.int .i64 yk) := by rw [cell_of_heap hbE]; rfl
     go_simp
     refine hK.out _ _ (⟨by rw [cell_of_heap hbE]; rfl, by rw [cell_of_heap hbE]; rfl, by rw [cell_of_heap hbE]; rfl, by rw [cell_of_heap hbE]; rfl, by rw [cell_of_heap hbE]; rfl, by rw [cell_of_heap hbE]; rfl, by rw [cell_of_heap hbE]; rfl, by rw [cell_of_heap hbE]; rfl, by rw [cell_of_heap hbE]; rfl⟩) fun hHeld => ?_
     clear hK KK hS hbE hkE m0 n0 hM7 HO7
     (try simp only [nz])
     generalize (w7.setCell ⟨mb, 0, none⟩ (.slice ro7 rn7 rc7)) = w8 at *
     refine wpAnyH_done (by kernel_rfl) ?_ _
     refine NoPanic.normal ?_
     clear hHeld HMK16 HKG26
     go_wp2_with fail
     all_goals (go_meet; exact ⟨rfl, _, _, _, HE⟩)
    case pB =>
     go_simp
     refine (HRS.out _).mono ?_
     rintro e w5 ⟨gz, oz, nz, cz, rfl, hk⟩
     obtain ⟨hz1, hz3, hzc, hsz⟩ := hk.out.1
     have HSZ := Lib.hid hsz
     have hz1I : (1 : Int) ≤ (nz : Int) := by omega
     clear hsz
     replace HKX16 := Lib.hid (HKX16.out.trans hk.out.2)
     clear hk HRS
     go_simp
     refine hK.out _ _ (HMK16.out _ (HKX16.out.mono (fun _ _ z => z.elim))) fun hHeld => ?_
     clear hK KK
     (try simp only [nz])
     refine wpAnyH_two (i := 5) (j := 8) (by kernel_rfl) rfl rfl (fun KK hK => ?pC) (fun KK hK => ?pD)
     case pC =>
      have m0 : w5.cell? ⟨mb, 0, none⟩ = some (.slice ro rn rc) := ((HKX16).out.cell (p := ⟨mb, 0, none⟩) (lt_of_heap HMI.out.M) (fun x => x)).trans (cf11 HMI.out.M).1
      go_simp
      refine hK.out _ _ (HMK16.out _ (HKX16.out.mono (fun _ _ z => z.elim))) fun hHeld => ?_
      clear hK KK
      (try simp only [nz])
      clear m0
      refine on1 8 rfl fun KK hK => ?_
      go_simp
      refine hK.out _ _ (HMK16.out _ (HKX16.out.mono (fun _ _ z => z.elim))) fun hHeld => ?_
      clear hK KK
      (try simp only [nz])
      refine on1 9 rfl fun KK hK => ?_
      have hlo : mb + 1 ≤ w5.heap.size := by have := HKX16.out.size; have := lt_of_heap HMI.out.M; omega
      refine step_app_k (E := rolE) rfl (.tmp 31) (.tmp 34) rfl (mb + 1) (.slice ro rn rc) R1 (by simp [Act.eval, Act.put] <;> rfl) (HMI.out.R.keeps HKX16.out (fun _ _ x => x)) _ (moreS ((yh1, yh2), yk, yo, (ya1, ya2), (yb1, yb2), yi)) (by simp [Act.eval, Act.put] <;> rfl) HSZ.out (by have := moreS_len ((yh1, yh2), yk, yo, (ya1, ya2), (yb1, yb2), yi); omega) hlo ?_
      intro v6 w6 ho hk
      have HKG35 : Hid (Keeps (fun q => (.slice ro rn rc : Value).ownBlock = some q) _ _) := (HKX16.out.mono (fun _ _ z => z.elim)).trans (hk)
      have HSR := Lib.hid (rsort_own ho.src (by have := moreS_len ((yh1, yh2), yk, yo, (ya1, ya2), (yb1, yb2), yi); rw [List.length_append]; omega))
      have HZ6 : Hid (b < w6.heap.size ∧ w3.heap.size ≤ w6.heap.size) := by have := HKG35.out.size; have := lt_of_heap HB.out; exact ⟨by omega, by omega⟩
      clear hlo ho hk HSZ HKX16
      go_simp
      refine hK.out _ _ (HMK16.out _ HKG35.out) fun hHeld => ?_
      clear hK KK
      (try simp only [nz])
      refine on1 10 rfl fun KK hK => ?_
      go_simp
      refine HSR.out.mono ?_
      rintro e w7 ⟨v7, rfl, hk⟩
      have HO7 : Hid (OwnK rolE w6.heap.size w7 v7 (addR R1 ((yh1, yh2), yk, yo, (ya1, ya2), (yb1, yb2), yi))) := hk.out.2
      replace HKG35 := Lib.hid (HKG35.out.trans (hk.out.1.mono (fun _ _ z => z.elim)))
      obtain ⟨ro7, rc7, hv7, _⟩ := id HO7.out.reads
      obtain ⟨rn7, hrn7⟩ : ∃ n, (addR R1 ((yh1, yh2), yk, yo, (ya1, ya2), (yb1, yb2), yi)).length = n := ⟨_, rfl⟩
      rw [hrn7] at hv7
      subst hv7
      clear hk HSR hrn7
      go_simp
      refine hK.out _ _ (HMK16.out _ HKG35.out) fun hHeld => ?_
      clear hK KK
      refine tk 11 rfl hHeld ?_
      refine tk 12 rfl hHeld ?_
      (try simp only [nz])
      refine tk 13 rfl hHeld ?_
      (try simp only [nz])
      refine on1 14 rfl fun KK hK => ?_
      have hM7 := (HKG35.out.block _ (lt_of_heap HMI.out.M) (fun e => by have := own_block HMI.out.R mb e; omega)).trans HMI.out.M
      have m0 := (cf11 hM7).1
      have n0 := (cf11 hM7).2.1
      have hkE : Keeps (fun q => q = mb) w7 (w7.setCell ⟨mb, 0, none⟩ (.slice ro7 rn7 rc7)) := Keeps.setCell (S := fun q => q = mb) (Keeps.refl _ _) (p := ⟨mb, 0, none⟩) (fun _ => rfl) _
      have hbE := (hkE.block b (lt_of_heap ((HKG35.out.block b (lt_of_heap HB.out) (fun e => by have := HLT.out.1 b e; omega)).trans HB.out)) (by show ¬ _ = _; have := HLT.out.2.2; omega)).trans ((HKG35.out.block b (lt_of_heap HB.out) (fun e => by have := HLT.out.1 b e; omega)).trans HB.out)
      have HE : Hid ((MkI W0 (w7.setCell ⟨mb, 0, none⟩ (.slice ro7 rn7 rc7)) mb (.slice ao an ac) (.slice bo bn bc) (.slice co cn cc) (.slice jo jn jc) (.slice ro7 rn7 rc7) (.slice lo ln lc) (addR R1 ((yh1, yh2), yk, yo, (ya1, ya2), (yb1, yb2), yi)) L1) ∧ RdX stmE (w7.setCell ⟨mb, 0, none⟩ (.slice ro7 rn7 rc7)) (.slice (some ⟨g, off, none⟩) nF cpF) F (fun k => (.slice ro7 rn7 rc7 : Value).ownBlock ≠ some k ∧ (.slice lo ln lc : Value).ownBlock ≠ some k ∧ k ≠ mb) ∧ (w7.setCell ⟨mb, 0, none⟩ (.slice ro7 rn7 rc7)).heap[b]? = some (bM yk yh1 yh2 yo ya1 ya2 yb1 yb2 yi)) := by
       have h6 := HZ6.out
       have hlt := HLT.out.2.2
       have hF7 : RdX stmE w7 (.slice (some ⟨g, off, none⟩) nF cpF) F (fun k => k < w3.heap.size ∧ (.slice ro rn rc : Value).ownBlock ≠ some k ∧ (.slice lo ln lc : Value).ownBlock ≠ some k ∧ k ≠ mb) := HFI.out.into HKG35.out (fun q hq hp e => hp.1 e) (fun q hq hp => ⟨hq, hp⟩)
       refine ⟨⟨(HMI.out.K.trans_new HKG35.out (fun q hq e => by have := own_block HMI.out.R q e; have := HMI.out.hb; omega)).trans_new hkE (fun q hq e => by have e : q = mb := e; have := HMI.out.hb; omega), HMI.out.hb, heap_set hM7 0 _, (HO7.out.base (by omega)).keeps hkE (fun q hq e => by have e : q = mb := e; omega), ?_⟩, hF7.into hkE (fun q hq hp e => hp.2.2.2 e) (fun q hq hp => ⟨fun e => by have := own_block HO7.out q e; have := hp.1; omega, hp.2.2⟩), hbE⟩
       have q1 : OwnK strE (mb + 1) w7 (.slice lo ln lc) L1 := ownsRow_keeps' HMI.out.L HKG35.out (fun q hq e => own_apart HMI.out.R HMI.out.L q e hq)
       exact q1.keeps hkE (fun q hq e => by have e : q = mb := e; omega)
      have hS : (w7.setCell ⟨mb, 0, none⟩ (.slice ro7 rn7 rc7)).cell? ⟨b, 0, none⟩ = some (.int .i64 yk) := by rw [cell_of_heap hbE]; rfl
      go_simp
      refine hK.out _ _ (⟨by rw [cell_of_heap hbE]; rfl, by rw [cell_of_heap hbE]; rfl, by rw [cell_of_heap hbE]; rfl, by rw [cell_of_heap hbE]; rfl, by rw [cell_of_heap hbE]; rfl, by rw [cell_of_heap hbE]; rfl, by rw [cell_of_heap hbE]; rfl, by rw [cell_of_heap hbE]; rfl, by rw [cell_of_heap hbE]; rfl⟩) fun hHeld => ?_
      clear hK KK hS hbE hkE m0 n0 hM7 HO7
      (try simp only [nz])
      generalize (w7.setCell ⟨mb, 0, none⟩ (.slice ro7 rn7 rc7)) = w8 at *
      refine wpAnyH_done (by kernel_rfl) ?_ _
      refine NoPanic.normal ?_
      clear hHeld HMK16 HKG35
      go_wp2_with fail
      all_goals (go_meet; exact ⟨rfl, _, _, _, HE⟩)
     case pD =>
      go_simp
      refine hK.out _ _ (HMK16.out _ (HKX16.out.mono (fun _ _ z => z.elim))) fun hHeld => ?_
      clear hK KK
      (try simp only [nz])
      refine on1 5 rfl fun KK hK => ?_
      have m0 : w5.cell? ⟨mb, 0, none⟩ = some (.slice ro rn rc) := ((HKX16).out.cell (p := ⟨mb, 0, none⟩) (lt_of_heap HMI.out.M) (fun x => x)).trans (cf11 HMI.out.M).1
      go_simp
      refine hK.out _ _ (HMK16.out _ (HKX16.out.mono (fun _ _ z => z.elim))) fun hHeld => ?_
      clear hK KK
      (try simp only [nz])
      clear m0
      refine on1 9 rfl fun KK hK => ?_
      have hlo : mb + 1 ≤ w5.heap.size := by have := HKX16.out.size; have := lt_of_heap HMI.out.M; omega
      refine step_app_k (E := rolE) rfl (.tmp 31) (.tmp 34) rfl (mb + 1) (.slice ro rn rc) R1 (by simp [Act.eval, Act.put] <;> rfl) (HMI.out.R.keeps HKX16.out (fun _ _ x => x)) _ (moreS ((yh1, yh2), yk, yo, (ya1, ya2), (yb1, yb2), yi)) (by simp [Act.eval, Act.put] <;> rfl) HSZ.out (by have := moreS_len ((yh1, yh2), yk, yo, (ya1, ya2), (yb1, yb2), yi); omega) hlo ?_
      intro v6 w6 ho hk
      have HKG43 : Hid (Keeps (fun q => (.slice ro rn rc : Value).ownBlock = some q) _ _) := (HKX16.out.mono (fun _ _ z => z.elim)).trans (hk)
      have HSR := Lib.hid (rsort_own ho.src (by have := moreS_len ((yh1, yh2), yk, yo, (ya1, ya2), (yb1, yb2), yi); rw [List.length_append]; omega))
      have HZ6 : Hid (b < w6.heap.size ∧ w3.heap.size ≤ w6.heap.size) := by have := HKG43.out.size; have := lt_of_heap HB.out; exact ⟨by omega, by omega⟩
      clear hlo ho hk HSZ HKX16
      go_simp
      refine hK.out _ _ (HMK16.out _ HKG43.out) fun hHeld => ?_
      clear hK KK
      (try simp only [nz])
      refine on1 10 rfl fun KK hK => ?_
      go_simp
      refine HSR.out.mono ?_
      rintro e w7 ⟨v7, rfl, hk⟩
      have HO7 : Hid (OwnK rolE w6.heap.size w7 v7 (addR R1 ((yh1, yh2), yk, yo, (ya1, ya2), (yb1, yb2), yi))) := hk.out.2
      replace HKG43 := Lib.hid (HKG43.out.trans (hk.out.1.mono (fun _ _ z => z.elim)))
      obtain ⟨ro7, rc7, hv7, _⟩ := id HO7.out.reads
      obtain ⟨rn7, hrn7⟩ : ∃ n, (addR R1 ((yh1, yh2), yk, yo, (ya1, ya2), (yb1, yb2), yi)).length = n := ⟨_, rfl⟩
      rw [hrn7] at hv7
      subst hv7
      clear hk HSR hrn7
      go_simp
      refine hK.out _ _ (HMK16.out _ HKG43.out) fun hHeld => ?_
      clear hK KK
      refine tk 11 rfl hHeld ?_
      refine tk 12 rfl hHeld ?_
      (try simp only [nz])
      refine tk 13 rfl hHeld ?_
      (try simp only [nz])
      refine on1 14 rfl fun KK hK => ?_
      have hM7 := (HKG43.out.block _ (lt_of_heap HMI.out.M) (fun e => by have := own_block HMI.out.R mb e; omega)).trans HMI.out.M
      have m0 := (cf11 hM7).1
      have n0 := (cf11 hM7).2.1
      have hkE : Keeps (fun q => q = mb) w7 (w7.setCell ⟨mb, 0, none⟩ (.slice ro7 rn7 rc7)) := Keeps.setCell (S := fun q => q = mb) (Keeps.refl _ _) (p := ⟨mb, 0, none⟩) (fun _ => rfl) _
      have hbE := (hkE.block b (lt_of_heap ((HKG43.out.block b (lt_of_heap HB.out) (fun e => by have := HLT.out.1 b e; omega)).trans HB.out)) (by show ¬ _ = _; have := HLT.out.2.2; omega)).trans ((HKG43.out.block b (lt_of_heap HB.out) (fun e => by have := HLT.out.1 b e; omega)).trans HB.out)
      have HE : Hid ((MkI W0 (w7.setCell ⟨mb, 0, none⟩ (.slice ro7 rn7 rc7)) mb (.slice ao an ac) (.slice bo bn bc) (.slice co cn cc) (.slice jo jn jc) (.slice ro7 rn7 rc7) (.slice lo ln lc) (addR R1 ((yh1, yh2), yk, yo, (ya1, ya2), (yb1, yb2), yi)) L1) ∧ RdX stmE (w7.setCell ⟨mb, 0, none⟩ (.slice ro7 rn7 rc7)) (.slice (some ⟨g, off, none⟩) nF cpF) F (fun k => (.slice ro7 rn7 rc7 : Value).ownBlock ≠ some k ∧ (.slice lo ln lc : Value).ownBlock ≠ some k ∧ k ≠ mb) ∧ (w7.setCell ⟨mb, 0, none⟩ (.slice ro7 rn7 rc7)).heap[b]? = some (bM yk yh1 yh2 yo ya1 ya2 yb1 yb2 yi)) := by
       have h6 := HZ6.out
       have hlt := HLT.out.2.2
       have hF7 : RdX stmE w7 (.slice (some ⟨g, off, none⟩) nF cpF) F (fun k => k < w3.heap.size ∧ (.slice ro rn rc : Value).ownBlock ≠ some k ∧ (.slice lo ln lc : Value).ownBlock ≠ some k ∧ k ≠ mb) := HFI.out.into HKG43.out (fun q hq hp e => hp.1 e) (fun q hq hp => ⟨hq, hp⟩)
       refine ⟨⟨(HMI.out.K.trans_new HKG43.out (fun q hq e => by have := own_block HMI.out.R q e; have := HMI.out.hb; omega)).trans_new hkE (fun q hq e => by have e : q = mb := e; have := HMI.out.hb; omega), HMI.out.hb, heap_set hM7 0 _, (HO7.out.base (by omega)).keeps hkE (fun q hq e => by have e : q = mb := e; omega), ?_⟩, hF7.into hkE (fun q hq hp e => hp.2.2.2 e) (fun q hq hp => ⟨fun e => by have := own_block HO7.out q e; have := hp.1; omega, hp.2.2⟩), hbE⟩
       have q1 : OwnK strE (mb + 1) w7 (.slice lo ln lc) L1 := ownsRow_keeps' HMI.out.L HKG43.out (fun q hq e => own_apart HMI.out.R HMI.out.L q e hq)
       exact q1.keeps hkE (fun q hq e => by have e : q = mb := e; omega)
      have hS : (w7.setCell ⟨mb, 0, none⟩ (.slice ro7 rn7 rc7)).cell? ⟨b, 0, none⟩ = some (.int .i64 yk) := by rw [cell_of_heap hbE]; rfl
      go_simp
      refine hK.out _ _ (⟨by rw [cell_of_heap hbE]; rfl, by rw [cell_of_heap hbE]; rfl, by rw [cell_of_heap hbE]; rfl, by rw [cell_of_heap hbE]; rfl, by rw [cell_of_heap hbE]; rfl, by rw [cell_of_heap hbE]; rfl, by rw [cell_of_heap hbE]; rfl, by rw [cell_of_heap hbE]; rfl, by rw [cell_of_heap hbE]; rfl⟩) fun hHeld => ?_
      clear hK KK hS hbE hkE m0 n0 hM7 HO7
      (try simp only [nz])
      generalize (w7.setCell ⟨mb, 0, none⟩ (.slice ro7 rn7 rc7)) = w8 at *
      refine wpAnyH_done (by kernel_rfl) ?_ _
      refine NoPanic.normal ?_
      clear hHeld HMK16 HKG43
      go_wp2_with fail
      all_goals (go_meet; exact ⟨rfl, _, _, _, HE⟩)
   case rest =>
    obtain ⟨rfl, ro2, rn2, rc2, HC⟩ := hcut
    clear HMI HFI HB HRS
    have HB := Lib.hid HC.out.2.2
    have HMI := Lib.hid HC.out.1
    have HFI := Lib.hid HC.out.2.1
    clear HC
    obtain ⟨p0, f0, p1, f1, p2, f2, p3, f3, p4, f4, p5, f5, p6, f6, p7, f7, p8, f8⟩ := cf9 HB.out
    clear f0 f1 f2 f3 f4 f5 f6 f7 f8
    by_cases hk : yk = 3
    case neg =>
     have hkb : (yk == 3) = false := beq_eq_false_iff_ne.2 hk
     have HN : Hid ((MkI W0 wc mb (.slice ao an ac) (.slice bo bn bc) (.slice co cn cc) (.slice jo jn jc) (.slice ro2 rn2 rc2) (.slice lo ln lc) ((F.take (i + 1)).foldl addR R0) ((F.take (i + 1)).foldl addL L0)) ∧ RdX stmE wc (.slice (some ⟨g, off, none⟩) nF cpF) F (fun k => (.slice ro2 rn2 rc2 : Value).ownBlock ≠ some k ∧ (.slice lo ln lc : Value).ownBlock ≠ some k ∧ k ≠ mb)) := by
      rw [HNR.out, HNL.out, show addL L1 ((yh1, yh2), yk, yo, (ya1, ya2), (yb1, yb2), yi) = L1 from tab_eq HLS.out (fun t => by rw [show viaS ((yh1, yh2), yk, yo, (ya1, ya2), (yb1, yb2), yi) = [] from if_neg hk, List.append_nil])]
      exact ⟨HMI.out, HFI.out⟩
     clear HMI HFI HB HLT
     go_wp2_with fail
     go_roundg (nF - (i + 1))
     case measure => omega
     case rel => exact ⟨i + 1, ro2, lo, rn2, rc2, ln, lc, by omega, rfl, by go_num, HN⟩
    case pos =>
     have HA3 : Hid (addL L1 ((yh1, yh2), yk, yo, (ya1, ya2), (yb1, yb2), yi) = tabL (L1 ++ [yi])) := by
      show tabL (L1 ++ viaS ((yh1, yh2), yk, yo, (ya1, ya2), (yb1, yb2), yi)) = _
      rw [show viaS ((yh1, yh2), yk, yo, (ya1, ya2), (yb1, yb2), yi) = [yi] from if_pos hk]
     have HK3 := Lib.hid hk
     clear hk
     obtain ⟨y3, hy3⟩ : ∃ y3, ((yh1, yh2), yk, yo, (ya1, ya2), (yb1, yb2), yi) = y3 := ⟨_, rfl⟩
     rw [hy3] at HA3 HNR HNL HMI
     clear hy3 HLS
     rw [HK3.out] at p0
     go_upto_region 7 with fail
     have HMK49 : Hid (∀ w' : World, Keeps (fun q => (.slice lo ln lc : Value).ownBlock = some q) wc w' → w'.cell? ⟨b, 0, none⟩ = some (.int .i64 3) ∧ w'.cell? ⟨b, 1, none⟩ = some (.string ⟨yh1.toArray⟩) ∧ w'.cell? ⟨b, 2, none⟩ = some (.string ⟨yh2.toArray⟩) ∧ w'.cell? ⟨b, 3, none⟩ = some (.string ⟨yo.toArray⟩) ∧ w'.cell? ⟨b, 4, none⟩ = some (.string ⟨ya1.toArray⟩) ∧ w'.cell? ⟨b, 5, none⟩ = some (.string ⟨ya2.toArray⟩) ∧ w'.cell? ⟨b, 6, none⟩ = some (.string ⟨yb1.toArray⟩) ∧ w'.cell? ⟨b, 7, none⟩ = some (.string ⟨yb2.toArray⟩) ∧ w'.cell? ⟨b, 8, none⟩ = some (.string ⟨yi.toArray⟩)) := fun w' hk => ⟨(hk.cell (p := ⟨b, 0, none⟩) (World.block_lt_of_cell? _ _ p0) (fun e => by have := HLT.out.2.1 b e; omega)).trans p0, (hk.cell (p := ⟨b, 1, none⟩) (World.block_lt_of_cell? _ _ p1) (fun e => by have := HLT.out.2.1 b e; omega)).trans p1, (hk.cell (p := ⟨b, 2, none⟩) (World.block_lt_of_cell? _ _ p2) (fun e => by have := HLT.out.2.1 b e; omega)).trans p2, (hk.cell (p := ⟨b, 3, none⟩) (World.block_lt_of_cell? _ _ p3) (fun e => by have := HLT.out.2.1 b e; omega)).trans p3, (hk.cell (p := ⟨b, 4, none⟩) (World.block_lt_of_cell? _ _ p4) (fun e => by have := HLT.out.2.1 b e; omega)).trans p4, (hk.cell (p := ⟨b, 5, none⟩) (World.block_lt_of_cell? _ _ p5) (fun e => by have := HLT.out.2.1 b e; omega)).trans p5, (hk.cell (p := ⟨b, 6, none⟩) (World.block_lt_of_cell? _ _ p6) (fun e => by have := HLT.out.2.1 b e; omega)).trans p6, (hk.cell (p := ⟨b, 7, none⟩) (World.block_lt_of_cell? _ _ p7) (fun e => by have := HLT.out.2.1 b e; omega)).trans p7, (hk.cell (p := ⟨b, 8, none⟩) (World.block_lt_of_cell? _ _ p8) (fun e => by have := HLT.out.2.1 b e; omega)).trans p8⟩
     have HKX49 : Hid (KF wc wc.drew) := (Keeps.refl _ _).drew
     have hS0 := HMK49.out _ (HKX49.out.mono (fun _ _ z => z.elim))
     clear p0 p1 p2 p3 p4 p5 p6 p7 p8
     refine wp_region_noPanic ?_
     refine wp_region_held_drew (S := (fun w' => w'.cell? ⟨b, 0, none⟩ = some (.int .i64 3) ∧ w'.cell? ⟨b, 1, none⟩ = some (.string ⟨yh1.toArray⟩) ∧ w'.cell? ⟨b, 2, none⟩ = some (.string ⟨yh2.toArray⟩) ∧ w'.cell? ⟨b, 3, none⟩ = some (.string ⟨yo.toArray⟩) ∧ w'.cell? ⟨b, 4, none⟩ = some (.string ⟨ya1.toArray⟩) ∧ w'.cell? ⟨b, 5, none⟩ = some (.string ⟨ya2.toArray⟩) ∧ w'.cell? ⟨b, 6, none⟩ = some (.string ⟨yb1.toArray⟩) ∧ w'.cell? ⟨b, 7, none⟩ = some (.string ⟨yb2.toArray⟩) ∧ w'.cell? ⟨b, 8, none⟩ = some (.string ⟨yi.toArray⟩))) (by kernel_rfl) hS0 (fun hHeld => ?_)
     clear hS0
     generalize wc.drew = w4 at *
     refine tk 0 rfl hHeld ?_
     refine tk 1 rfl hHeld ?_
     refine tk 6 rfl hHeld ?_
     (try simp only [nz])
     refine tk 7 rfl hHeld ?_
     refine tk 2 rfl hHeld ?_
     refine tk 3 rfl hHeld ?_
     (try simp only [nz])
     refine tk 4 rfl hHeld ?_
     (try simp only [nz])
     refine wpAnyH_two (i := 5) (j := 8) (by kernel_rfl) rfl rfl (fun KK hK => ?pA) (fun KK hK => ?pB)
     case pA =>
      have m1 : w4.cell? ⟨mb, 1, none⟩ = some (.slice lo ln lc) := ((HKX49).out.cell (p := ⟨mb, 1, none⟩) (lt_of_heap HMI.out.M) (fun x => x)).trans (cf11 HMI.out.M).2.2.1
      go_simp
      refine hK.out _ _ (HMK49.out _ (HKX49.out.mono (fun _ _ z => z.elim))) fun hHeld => ?_
      clear hK KK
      (try simp only [nz])
      clear m1
      refine on1 8 rfl fun KK hK => ?_
      have hkE : KF w4 (w4.alloc (.cells #[.string ⟨yi.toArray⟩] 9)) := (Keeps.refl _ _).alloc _
      have HSR : Hid (SrcK strE (w4.alloc (.cells #[.string ⟨yi.toArray⟩] 9)) (.slice (some ⟨w4.heap.size, 0, none⟩) 1 1) [yi]) := srcK_str (one_srcS w4 yi)
      replace HKX49 := Lib.hid (HKX49.out.trans hkE)
      clear hkE
      go_simp
      refine hK.out _ _ (HMK49.out _ (HKX49.out.mono (fun _ _ z => z.elim))) fun hHeld => ?_
      clear hK KK
      (try simp only [nz])
      generalize (w4.alloc (.cells #[.string ⟨yi.toArray⟩] 9)) = w5 at *
      obtain ⟨zb, hzb⟩ : ∃ zb, w4.heap.size = zb := ⟨_, rfl⟩
      (try simp only [hzb])
      (try simp only [hzb] at HSR)
      clear hzb
      refine on1 9 rfl fun KK hK => ?_
      have hlo : mb + 1 ≤ w5.heap.size := by have := HKX49.out.size; have := lt_of_heap HMI.out.M; omega
      refine step_app_k (E := strE) rfl (.tmp 48) (.tmp 51) rfl (mb + 1) (.slice lo ln lc) L1 (by simp [Act.eval, Act.put] <;> rfl) (HMI.out.L.keeps HKX49.out (fun _ _ x => x)) _ [yi] (by simp [Act.eval, Act.put] <;> rfl) HSR.out (by simp only [List.length_cons, List.length_nil]; omega) hlo ?_
      intro v6 w6 ho hk
      have HKG59 : Hid (Keeps (fun q => (.slice lo ln lc : Value).ownBlock = some q) _ _) := (HKX49.out.mono (fun _ _ z => z.elim)).trans (hk)
      have HNW := Lib.hid (names_new (ownK_str.1 ho).reads (by rw [List.length_append]; simp only [List.length_cons, List.length_nil]; omega))
      have HZ6 : Hid (b < w6.heap.size ∧ wc.heap.size ≤ w6.heap.size) := by have := HKG59.out.size; have := lt_of_heap HB.out; exact ⟨by omega, by omega⟩
      clear hlo ho hk HSR HKX49
      go_simp
      refine hK.out _ _ (HMK49.out _ HKG59.out) fun hHeld => ?_
      clear hK KK
      (try simp only [nz])
      refine on1 10 rfl fun KK hK => ?_
      go_simp
      refine HNW.out.mono ?_
      rintro e w7 ⟨p7, rfl, hk⟩
      have HNA := Lib.hid (names_all hk.out.2 (by have := tab_len (L1 ++ [yi]); rw [List.length_append] at this; simp only [List.length_cons, List.length_nil] at this; omega))
      have HZ7 : Hid (wc.heap.size ≤ w7.heap.size) := by have := hk.out.1.size; have := HZ6.out.2; show wc.heap.size ≤ w7.heap.size; omega
      replace HKG59 := Lib.hid (HKG59.out.trans (hk.out.1.mono (fun _ _ z => z.elim)))
      clear hk HNW
      go_simp
      refine hK.out _ _ (HMK49.out _ HKG59.out) fun hHeld => ?_
      clear hK KK
      (try simp only [nz])
      refine on1 11 rfl fun KK hK => ?_
      go_simp
      refine HNA.out.mono ?_
      rintro e w8 ⟨v8, rfl, hk⟩
      have HO8 : Hid (OwnK strE w7.heap.size w8 v8 (addL L1 y3)) := by rw [HA3.out]; exact ownK_str.2 hk.out.2
      replace HKG59 := Lib.hid (HKG59.out.trans (hk.out.1.mono (fun _ _ z => z.elim)))
      obtain ⟨lo8, lc8, hv8, _⟩ := id HO8.out.reads
      obtain ⟨ln8, hln8⟩ : ∃ n, (addL L1 y3).length = n := ⟨_, rfl⟩
      rw [hln8] at hv8
      subst hv8
      clear hk HNA hln8
      go_simp
      refine hK.out _ _ (HMK49.out _ HKG59.out) fun hHeld => ?_
      clear hK KK
      refine tk 12 rfl hHeld ?_
      refine tk 13 rfl hHeld ?_
      (try simp only [nz])
      refine tk 14 rfl hHeld ?_
      (try simp only [nz])
      refine on1 15 rfl fun KK hK => ?_
      have hM8 := (HKG59.out.block _ (lt_of_heap HMI.out.M) (fun e => by have := own_block HMI.out.L mb e; omega)).trans HMI.out.M
      have m1 := (cf11 hM8).2.2.1
      have n1 := (cf11 hM8).2.2.2.1
      have hkE : Keeps (fun q => q = mb) w8 (w8.setCell ⟨mb, 1, none⟩ (.slice lo8 ln8 lc8)) := Keeps.setCell (S := fun q => q = mb) (Keeps.refl _ _) (p := ⟨mb, 1, none⟩) (fun _ => rfl) _
      have hbE := (hkE.block b (lt_of_heap ((HKG59.out.block b (lt_of_heap HB.out) (fun e => by have := HLT.out.2.1 b e; omega)).trans HB.out)) (by show ¬ _ = _; have := HLT.out.2.2; omega)).trans ((HKG59.out.block b (lt_of_heap HB.out) (fun e => by have := HLT.out.2.1 b e; omega)).trans HB.out)
      have HE : Hid ((MkI W0 (w8.setCell ⟨mb, 1, none⟩ (.slice lo8 ln8 lc8)) mb (.slice ao an ac) (.slice bo bn bc) (.slice co cn cc) (.slice jo jn jc) (.slice ro2 rn2 rc2) (.slice lo8 ln8 lc8) ((F.take (i + 1)).foldl addR R0) ((F.take (i + 1)).foldl addL L0)) ∧ RdX stmE (w8.setCell ⟨mb, 1, none⟩ (.slice lo8 ln8 lc8)) (.slice (some ⟨g, off, none⟩) nF cpF) F (fun k => (.slice ro2 rn2 rc2 : Value).ownBlock ≠ some k ∧ (.slice lo8 ln8 lc8 : Value).ownBlock ≠ some k ∧ k ≠ mb)) := by
       rw [HNR.out, HNL.out]
       have h6 := HZ6.out
       have h7 := HZ7.out
       have hltb := HLT.out.2.2
       have hF8 : RdX stmE w8 (.slice (some ⟨g, off, none⟩) nF cpF) F (fun k => k < wc.heap.size ∧ (.slice ro2 rn2 rc2 : Value).ownBlock ≠ some k ∧ (.slice lo ln lc : Value).ownBlock ≠ some k ∧ k ≠ mb) := HFI.out.into HKG59.out (fun q hq hp e => hp.2.1 e) (fun q hq hp => ⟨hq, hp⟩)
       have hmb := lt_of_heap HMI.out.M
       have q1 : OwnK rolE (mb + 1) w8 (.slice ro2 rn2 rc2) (addR R1 y3) := ownsRow_keeps' HMI.out.R HKG59.out (fun q hq e => own_apart HMI.out.R HMI.out.L q hq e)
       exact ⟨⟨(HMI.out.K.trans_new HKG59.out (fun q hq e => by have := own_block HMI.out.L q e; have := HMI.out.hb; omega)).trans_new hkE (fun q hq e => by have e : q = mb := e; have := HMI.out.hb; omega), HMI.out.hb, heap_set hM8 1 _, q1.keeps hkE (fun q hq e => by have e : q = mb := e; omega), (HO8.out.base (by omega)).keeps hkE (fun q hq e => by have e : q = mb := e; omega)⟩, hF8.into hkE (fun q hq hp e => hp.2.2.2 e) (fun q hq hp => ⟨hp.2.1, fun e => by have := own_block HO8.out q e; have := hp.1; omega, hp.2.2.2⟩)⟩
      have hS : ((w8.setCell ⟨mb, 1, none⟩ (.slice lo8 ln8 lc8)).cell? ⟨b, 0, none⟩ = some (.int .i64 3) ∧ (w8.setCell ⟨mb, 1, none⟩ (.slice lo8 ln8 lc8)).cell? ⟨b, 1, none⟩ = some (.string ⟨yh1.toArray⟩) ∧ (w8.setCell ⟨mb, 1, none⟩ (.slice lo8 ln8 lc8)).cell? ⟨b, 2, none⟩ = some (.string ⟨yh2.toArray⟩) ∧ (w8.setCell ⟨mb, 1, none⟩ (.slice lo8 ln8 lc8)).cell? ⟨b, 3, none⟩ = some (.string ⟨yo.toArray⟩) ∧ (w8.setCell ⟨mb, 1, none⟩ (.slice lo8 ln8 lc8)).cell? ⟨b, 4, none⟩ = some (.string ⟨ya1.toArray⟩) ∧ (w8.setCell ⟨mb, 1, none⟩ (.slice lo8 ln8 lc8)).cell? ⟨b, 5, none⟩ = some (.string ⟨ya2.toArray⟩) ∧ (w8.setCell ⟨mb, 1, none⟩ (.slice lo8 ln8 lc8)).cell? ⟨b, 6, none⟩ = some (.string ⟨yb1.toArray⟩) ∧ (w8.setCell ⟨mb, 1, none⟩ (.slice lo8 ln8 lc8)).cell? ⟨b, 7, none⟩ = some (.string ⟨yb2.toArray⟩) ∧ (w8.setCell ⟨mb, 1, none⟩ (.slice lo8 ln8 lc8)).cell? ⟨b, 8, none⟩ = some (.string ⟨yi.toArray⟩)) := ⟨by rw [cell_of_heap hbE, HK3.out]; rfl, by rw [cell_of_heap hbE]; rfl, by rw [cell_of_heap hbE]; rfl, by rw [cell_of_heap hbE]; rfl, by rw [cell_of_heap hbE]; rfl, by rw [cell_of_heap hbE]; rfl, by rw [cell_of_heap hbE]; rfl, by rw [cell_of_heap hbE]; rfl, by rw [cell_of_heap hbE]; rfl⟩
      go_simp
      refine hK.out _ _ hS (fun hHeld => ?_)
      clear hK KK hS hbE hkE m1 n1 hM8 HO8
      (try simp only [nz])
      generalize (w8.setCell ⟨mb, 1, none⟩ (.slice lo8 ln8 lc8)) = w9 at *
      refine wpAnyH_done (by kernel_rfl) ?_ _
      refine NoPanic.normal ?_
      clear hHeld HMK49 HKG59 HNR HNL HMI HFI HB HLT
      go_wp2_with fail
      go_roundg (nF - (i + 1))
      case measure => omega
      case rel => exact ⟨i + 1, ro2, lo8, rn2, rc2, ln8, lc8, by omega, rfl, by go_num, HE⟩
     case pB =>
      have hkE : KF w4 (w4.alloc (.cells #[.string ⟨yi.toArray⟩] 9)) := (Keeps.refl _ _).alloc _
      have HSR : Hid (SrcK strE (w4.alloc (.cells #[.string ⟨yi.toArray⟩] 9)) (.slice (some ⟨w4.heap.size, 0, none⟩) 1 1) [yi]) := srcK_str (one_srcS w4 yi)
      replace HKX49 := Lib.hid (HKX49.out.trans hkE)
      clear hkE
      go_simp
      refine hK.out _ _ (HMK49.out _ (HKX49.out.mono (fun _ _ z => z.elim))) fun hHeld => ?_
      clear hK KK
      (try simp only [nz])
      generalize (w4.alloc (.cells #[.string ⟨yi.toArray⟩] 9)) = w5 at *
      obtain ⟨zb, hzb⟩ : ∃ zb, w4.heap.size = zb := ⟨_, rfl⟩
      (try simp only [hzb])
      (try simp only [hzb] at HSR)
      clear hzb
      refine on1 5 rfl fun KK hK => ?_
      have m1 : w5.cell? ⟨mb, 1, none⟩ = some (.slice lo ln lc) := ((HKX49).out.cell (p := ⟨mb, 1, none⟩) (lt_of_heap HMI.out.M) (fun x => x)).trans (cf11 HMI.out.M).2.2.1
      go_simp
      refine hK.out _ _ (HMK49.out _ (HKX49.out.mono (fun _ _ z => z.elim))) fun hHeld => ?_
      clear hK KK
      (try simp only [nz])
      clear m1
      refine on1 9 rfl fun KK hK => ?_
      have hlo : mb + 1 ≤ w5.heap.size := by have := HKX49.out.size; have := lt_of_heap HMI.out.M; omega
      refine step_app_k (E := strE) rfl (.tmp 48) (.tmp 51) rfl (mb + 1) (.slice lo ln lc) L1 (by simp [Act.eval, Act.put] <;> rfl) (HMI.out.L.keeps HKX49.out (fun _ _ x => x)) _ [yi] (by simp [Act.eval, Act.put] <;> rfl) HSR.out (by simp only [List.length_cons, List.length_nil]; omega) hlo ?_
      intro v6 w6 ho hk
      have HKG68 : Hid (Keeps (fun q => (.slice lo ln lc : Value).ownBlock = some q) _ _) := (HKX49.out.mono (fun _ _ z => z.elim)).trans (hk)
      have HNW := Lib.hid (names_new (ownK_str.1 ho).reads (by rw [List.length_append]; simp only [List.length_cons, List.length_nil]; omega))
      have HZ6 : Hid (b < w6.heap.size ∧ wc.heap.size ≤ w6.heap.size) := by have := HKG68.out.size; have := lt_of_heap HB.out; exact ⟨by omega, by omega⟩
      clear hlo ho hk HSR HKX49
      go_simp
      refine hK.out _ _ (HMK49.out _ HKG68.out) fun hHeld => ?_
      clear hK KK
      (try simp only [nz])
      refine on1 10 rfl fun KK hK => ?_
      go_simp
      refine HNW.out.mono ?_
      rintro e w7 ⟨p7, rfl, hk⟩
      have HNA := Lib.hid (names_all hk.out.2 (by have := tab_len (L1 ++ [yi]); rw [List.length_append] at this; simp only [List.length_cons, List.length_nil] at this; omega))
      have HZ7 : Hid (wc.heap.size ≤ w7.heap.size) := by have := hk.out.1.size; have := HZ6.out.2; show wc.heap.size ≤ w7.heap.size; omega
      replace HKG68 := Lib.hid (HKG68.out.trans (hk.out.1.mono (fun _ _ z => z.elim)))
      clear hk HNW
      go_simp
      refine hK.out _ _ (HMK49.out _ HKG68.out) fun hHeld => ?_
      clear hK KK
      (try simp only [nz])
      refine on1 11 rfl fun KK hK => ?_
      go_simp
      refine HNA.out.mono ?_
      rintro e w8 ⟨v8, rfl, hk⟩
      have HO8 : Hid (OwnK strE w7.heap.size w8 v8 (addL L1 y3)) := by rw [HA3.out]; exact ownK_str.2 hk.out.2
      replace HKG68 := Lib.hid (HKG68.out.trans (hk.out.1.mono (fun _ _ z => z.elim)))
      obtain ⟨lo8, lc8, hv8, _⟩ := id HO8.out.reads
      obtain ⟨ln8, hln8⟩ : ∃ n, (addL L1 y3).length = n := ⟨_, rfl⟩
      rw [hln8] at hv8
      subst hv8
      clear hk HNA hln8
      go_simp
      refine hK.out _ _ (HMK49.out _ HKG68.out) fun hHeld => ?_
      clear hK KK
      refine tk 12 rfl hHeld ?_
      refine tk 13 rfl hHeld ?_
      (try simp only [nz])
      refine tk 14 rfl hHeld ?_
      (try simp only [nz])
      refine on1 15 rfl fun KK hK => ?_
      have hM8 := (HKG68.out.block _ (lt_of_heap HMI.out.M) (fun e => by have := own_block HMI.out.L mb e; omega)).trans HMI.out.M
      have m1 := (cf11 hM8).2.2.1
      have n1 := (cf11 hM8).2.2.2.1
      have hkE : Keeps (fun q => q = mb) w8 (w8.setCell ⟨mb, 1, none⟩ (.slice lo8 ln8 lc8)) := Keeps.setCell (S := fun q => q = mb) (Keeps.refl _ _) (p := ⟨mb, 1, none⟩) (fun _ => rfl) _
      have hbE := (hkE.block b (lt_of_heap ((HKG68.out.block b (lt_of_heap HB.out) (fun e => by have := HLT.out.2.1 b e; omega)).trans HB.out)) (by show ¬ _ = _; have := HLT.out.2.2; omega)).trans ((HKG68.out.block b (lt_of_heap HB.out) (fun e => by have := HLT.out.2.1 b e; omega)).trans HB.out)
      have HE : Hid ((MkI W0 (w8.setCell ⟨mb, 1, none⟩ (.slice lo8 ln8 lc8)) mb (.slice ao an ac) (.slice bo bn bc) (.slice co cn cc) (.slice jo jn jc) (.slice ro2 rn2 rc2) (.slice lo8 ln8 lc8) ((F.take (i + 1)).foldl addR R0) ((F.take (i + 1)).foldl addL L0)) ∧ RdX stmE (w8.setCell ⟨mb, 1, none⟩ (.slice lo8 ln8 lc8)) (.slice (some ⟨g, off, none⟩) nF cpF) F (fun k => (.slice ro2 rn2 rc2 : Value).ownBlock ≠ some k ∧ (.slice lo8 ln8 lc8 : Value).ownBlock ≠ some k ∧ k ≠ mb)) := by
       rw [HNR.out, HNL.out]
       have h6 := HZ6.out
       have h7 := HZ7.out
       have hltb := HLT.out.2.2
       have hF8 : RdX stmE w8 (.slice (some ⟨g, off, none⟩) nF cpF) F (fun k => k < wc.heap.size ∧ (.slice ro2 rn2 rc2 : Value).ownBlock ≠ some k ∧ (.slice lo ln lc : Value).ownBlock ≠ some k ∧ k ≠ mb) := HFI.out.into HKG68.out (fun q hq hp e => hp.2.1 e) (fun q hq hp => ⟨hq, hp⟩)
       have hmb := lt_of_heap HMI.out.M
       have q1 : OwnK rolE (mb + 1) w8 (.slice ro2 rn2 rc2) (addR R1 y3) := ownsRow_keeps' HMI.out.R HKG68.out (fun q hq e => own_apart HMI.out.R HMI.out.L q hq e)
       exact ⟨⟨(HMI.out.K.trans_new HKG68.out (fun q hq e => by have := own_block HMI.out.L q e; have := HMI.out.hb; omega)).trans_new hkE (fun q hq e => by have e : q = mb := e; have := HMI.out.hb; omega), HMI.out.hb, heap_set hM8 1 _, q1.keeps hkE (fun q hq e => by have e : q = mb := e; omega), (HO8.out.base (by omega)).keeps hkE (fun q hq e => by have e : q = mb := e; omega)⟩, hF8.into hkE (fun q hq hp e => hp.2.2.2 e) (fun q hq hp => ⟨hp.2.1, fun e => by have := own_block HO8.out q e; have := hp.1; omega, hp.2.2.2⟩)⟩
      have hS : ((w8.setCell ⟨mb, 1, none⟩ (.slice lo8 ln8 lc8)).cell? ⟨b, 0, none⟩ = some (.int .i64 3) ∧ (w8.setCell ⟨mb, 1, none⟩ (.slice lo8 ln8 lc8)).cell? ⟨b, 1, none⟩ = some (.string ⟨yh1.toArray⟩) ∧ (w8.setCell ⟨mb, 1, none⟩ (.slice lo8 ln8 lc8)).cell? ⟨b, 2, none⟩ = some (.string ⟨yh2.toArray⟩) ∧ (w8.setCell ⟨mb, 1, none⟩ (.slice lo8 ln8 lc8)).cell? ⟨b, 3, none⟩ = some (.string ⟨yo.toArray⟩) ∧ (w8.setCell ⟨mb, 1, none⟩ (.slice lo8 ln8 lc8)).cell? ⟨b, 4, none⟩ = some (.string ⟨ya1.toArray⟩) ∧ (w8.setCell ⟨mb, 1, none⟩ (.slice lo8 ln8 lc8)).cell? ⟨b, 5, none⟩ = some (.string ⟨ya2.toArray⟩) ∧ (w8.setCell ⟨mb, 1, none⟩ (.slice lo8 ln8 lc8)).cell? ⟨b, 6, none⟩ = some (.string ⟨yb1.toArray⟩) ∧ (w8.setCell ⟨mb, 1, none⟩ (.slice lo8 ln8 lc8)).cell? ⟨b, 7, none⟩ = some (.string ⟨yb2.toArray⟩) ∧ (w8.setCell ⟨mb, 1, none⟩ (.slice lo8 ln8 lc8)).cell? ⟨b, 8, none⟩ = some (.string ⟨yi.toArray⟩)) := ⟨by rw [cell_of_heap hbE, HK3.out]; rfl, by rw [cell_of_heap hbE]; rfl, by rw [cell_of_heap hbE]; rfl, by rw [cell_of_heap hbE]; rfl, by rw [cell_of_heap hbE]; rfl, by rw [cell_of_heap hbE]; rfl, by rw [cell_of_heap hbE]; rfl, by rw [cell_of_heap hbE]; rfl, by rw [cell_of_heap hbE]; rfl⟩
      go_simp
      refine hK.out _ _ hS (fun hHeld => ?_)
      clear hK KK hS hbE hkE m1 n1 hM8 HO8
      (try simp only [nz])
      generalize (w8.setCell ⟨mb, 1, none⟩ (.slice lo8 ln8 lc8)) = w9 at *
      refine wpAnyH_done (by kernel_rfl) ?_ _
      refine NoPanic.normal ?_
      clear hHeld HMK49 HKG68 HNR HNL HMI HFI HB HLT
      go_wp2_with fail
      go_roundg (nF - (i + 1))
      case measure => omega
      case rel => exact ⟨i + 1, ro2, lo8, rn2, rc2, ln8, lc8, by omega, rfl, by go_num, HE⟩
  ·obtain rfl : nF = i := by omega
   have hiI : ¬ (nF : Int) < (nF : Int) := by omega
   have HE : Hid ((MkI W0 wr mb (.slice ao an ac) (.slice bo bn bc) (.slice co cn cc) (.slice jo jn jc) (.slice ro rn rc) (.slice lo ln lc) (F.foldl addR R0) (F.foldl addL L0))) := by
    have q := HI.out.1
    rw [List.take_of_length_le (by rw [HNF.out]; exact Nat.le_refl _)] at q
    exact q
   have hl1 : rn = (F.foldl addR R0).length := by obtain ⟨_, _, e, _⟩ := id HE.out.R.reads; simp only [Value.slice.injEq] at e; exact e.2.1
   have hl2 : ln = (F.foldl addL L0).length := by obtain ⟨_, _, e, _⟩ := id (ownK_str.1 HE.out.L).reads; simp only [Value.slice.injEq] at e; exact e.2.1
   have hb1 : rn ≤ 9300 := by have := addR_len (R := R0) (F := F) (by rw [HNF.out]; exact hfl) h1 nF; rw [List.take_of_length_le (by rw [HNF.out]; exact Nat.le_refl _)] at this; omega
   have hb2 : ln ≤ 9300 := by have := addL_len (Lk := L0) (F := F) (by rw [HNF.out]; exact hfl) h2 nF; rw [List.take_of_length_le (by rw [HNF.out]; exact Nat.le_refl _)] at this; omega
   have HFIN := Lib.hid (HFI0.out rn ln)
   obtain ⟨m0, n0, m1, n1, m2, n2, m3, n3, m4, n4, m5, n5, m6, n6, m7, n7, m8, n8, m9, n9, m10, n10⟩ := cf11 HE.out.M
   clear n0 n1 n2 n3 n4 n5 n6 n7 n8 n9 n10 m2 m3 m4 m5 m6 m7 m8 m9 m10 HI HRL HNF HFI0
   have HLL : Hid (rn = (F.foldl addR R0).length ∧ ln = (F.foldl addL L0).length) := ⟨hl1, hl2⟩
   clear hl1 hl2
   have hwn : IntKind.i64.wrap ((rn : Int) + (ln : Int)) = ((rn + ln : Nat) : Int) := (IntWalk.i64_in _ (by omega)).trans (by omega)
   go_upto_region 9 with fail
   have HMK75 : Hid (∀ w' : World, KF wr w' → w'.cell? ⟨mb, 0, none⟩ = some (.slice ro rn rc) ∧ w'.cell? ⟨mb, 1, none⟩ = some (.slice lo ln lc)) := fun w' hk => ⟨kc hk m0, kc hk m1⟩
   have HKX75 : Hid (KF wr wr.drew) := (Keeps.refl _ _).drew
   have hS0 := HMK75.out _ HKX75.out
   clear m0 m1
   refine wp_region_noPanic ?_
   refine wp_region_held_drew (S := (fun w' => w'.cell? ⟨mb, 0, none⟩ = some (.slice ro rn rc) ∧ w'.cell? ⟨mb, 1, none⟩ = some (.slice lo ln lc))) (by kernel_rfl) hS0 (fun hHeld => ?_)
   clear hS0
   generalize wr.drew = w1e at *
   refine tk 0 rfl hHeld ?_
   refine tk 6 rfl hHeld ?_
   refine tk 13 rfl hHeld ?_
   (try simp only [nz])
   refine tk 1 rfl hHeld ?_
   refine tk 2 rfl hHeld ?_
   refine tk 3 rfl hHeld ?_
   (try simp only [nz])
   refine tk 4 rfl hHeld ?_
   refine tk 5 rfl hHeld ?_
   refine tk 7 rfl hHeld ?_
   (try simp only [nz])
   refine tk 8 rfl hHeld ?_
   refine tk 9 rfl hHeld ?_
   refine tk 10 rfl hHeld ?_
   (try simp only [nz])
   refine tk 11 rfl hHeld ?_
   refine tk 12 rfl hHeld ?_
   refine tk 14 rfl hHeld ?_
   (try simp only [nz])
   refine on1 15 rfl fun KK hK => ?_
   go_simp
   refine hK.out _ _ (HMK75.out _ HKX75.out) fun hHeld => ?_
   clear hK KK
   (try simp only [nz])
   refine wpAnyH_done (by kernel_rfl) ?_ _
   refine NoPanic.normal ?_
   clear hHeld HMK75
   have HF := Lib.hid (HE.out.keeps HKX75.out)
   clear HE HKX75
   go_wp2_with fail
   go_ret
   refine ⟨?_, _, _, HF⟩
   rw [← HLL.out.1, ← HLL.out.2]
   exact congrArg (fun q => Ending.returned (.bool q)) HFIN.out
end Go.Proofs.YtckikkkdabpjkaaGreat
/-
 Where a maker stands while it is finished: five rows of its own, apart from one another.
-/
set_option linter.unusedVariables false
set_option linter.unusedSimpArgs false
set_option linter.unnecessarySimpa false
namespace Go.Proofs.YtckikkkdabpjkaaGreat
open Go.ChangeShapes Go.WideShapes Go.ChangeAt Go.RowKit Go.Deep

/-- Rows of other types lie in other blocks. -/
theorem apart_of {α β : Type} {E1 : Elt α} {E2 : Elt β} (hT : E1.T ≠ E2.T) {b1 b2 : Nat} {w : World} {u v : Value} {R : List α} {Lk : List β} (h1 : OwnK E1 b1 w u R) (h2 : OwnK E2 b2 w v Lk) : ∀ k, u.ownBlock = some k → v.ownBlock ≠ some k := fun k hk hk2 => by
 rcases h1.form with ⟨rfl, _⟩ | ⟨g, cap, cur, rfl, _, hh, _⟩
 ·simp [Value.ownBlock] at hk
 ·rcases h2.form with ⟨rfl, _⟩ | ⟨g2, cap2, cur2, rfl, _, hh2, _⟩
  ·simp [Value.ownBlock] at hk2
  ·simp only [Value.ownBlock, Option.map_some, Option.some.injEq] at hk hk2
   subst hk
   subst hk2
   rw [hh] at hh2
   have := Option.some.inj hh2
   simp only [Obj.cells.injEq] at this
   exact hT this.2.1
theorem rs_ne : rolE.T ≠ strE.T := by decide
theorem rm_ne : rolE.T ≠ stmE.T := by decide
theorem sm_ne : strE.T ≠ stmE.T := by decide
/-- No block of these. -/
def Ap (mb : Nat) (gv uv fv ov : Value) (k : Nat) : Prop := gv.ownBlock ≠ some k ∧ uv.ownBlock ≠ some k ∧ fv.ownBlock ≠ some k ∧ ov.ownBlock ≠ some k ∧ k ≠ mb
structure FinI (W0 W : World) (mb : Nat) (av bv cv jv rv lv fv ov : Value) (lk : Bool) (uv gv zv yv : Value) (R : List Rol) (Lk : List Str) (Fx Ls : List Stm) (U : List Str) (G : List Rol) (Z Y : List Stm) : Prop where
 K : KF W0 W
 hb : W0.heap.size ≤ mb
 M : W.heap[mb]? = some (.cells #[rv, lv, .slice none 0 0, fv, ov, .slice none 0 0, .bool lk, av, bv, cv, jv] 118)
 R : OwnK rolE (mb + 1) W rv R
 L : OwnK strE (mb + 1) W lv Lk
 F : OwnK stmE (mb + 1) W fv Fx
 O : OwnK stmE (mb + 1) W ov Ls
 U : OwnK strE (mb + 1) W uv U
 G : OwnK rolE (mb + 1) W gv G
 Z : RdX stmE W zv Z (Ap mb gv uv fv ov)
 Y : RdX stmE W yv Y (Ap mb gv uv fv ov)
 d1 : ∀ k, gv.ownBlock = some k → rv.ownBlock ≠ some k
 d2 : ∀ k, uv.ownBlock = some k → lv.ownBlock ≠ some k
 d3 : ∀ k, fv.ownBlock = some k → ov.ownBlock ≠ some k
theorem FinI.keeps {W0 W : World} {mb : Nat} {av bv cv jv rv lv fv ov : Value} {lk : Bool} {uv gv zv yv : Value} {R : List Rol} {Lk : List Str} {Fx Ls : List Stm} {U : List Str} {G : List Rol} {Z Y : List Stm} {W' : World} (h : FinI W0 W mb av bv cv jv rv lv fv ov lk uv gv zv yv R Lk Fx Ls U G Z Y) (hk : KF W W') : FinI W0 W' mb av bv cv jv rv lv fv ov lk uv gv zv yv R Lk Fx Ls U G Z Y :=
 ⟨h.K.trans hk, h.hb, (hk.block _ (lt_of_heap h.M) (fun x => x)).trans h.M, h.R.keeps hk (fun _ _ x => x), h.L.keeps hk (fun _ _ x => x), h.F.keeps hk (fun _ _ x => x), h.O.keeps hk (fun _ _ x => x), h.U.keeps hk (fun _ _ x => x), h.G.keeps hk (fun _ _ x => x), h.Z.keeps hk (fun _ _ _ x => x), h.Y.keeps hk (fun _ _ _ x => x), h.d1, h.d2, h.d3⟩
/-- Another row is ranged over. -/
theorem FinI.over {W0 W : World} {mb : Nat} {av bv cv jv rv lv fv ov : Value} {lk : Bool} {uv gv zv yv : Value} {R : List Rol} {Lk : List Str} {Fx Ls : List Stm} {U : List Str} {G : List Rol} {Z Y : List Stm} {zv' : Value} {Z' : List Stm} (h : FinI W0 W mb av bv cv jv rv lv fv ov lk uv gv zv yv R Lk Fx Ls U G Z Y) (hz : RdX stmE W zv' Z' (Ap mb gv uv fv ov)) : FinI W0 W mb av bv cv jv rv lv fv ov lk uv gv zv' yv R Lk Fx Ls U G Z' Y :=
 ⟨h.K, h.hb, h.M, h.R, h.L, h.F, h.O, h.U, h.G, hz, h.Y, h.d1, h.d2, h.d3⟩
theorem FinI.one {W0 W : World} {mb : Nat} {av bv cv jv rv lv fv ov : Value} {lk : Bool} {uv gv zv yv : Value} {R : List Rol} {Lk : List Str} {Fx Ls : List Stm} {U : List Str} {G : List Rol} {Z Y : List Stm} {yv' : Value} {Y' : List Stm} (h : FinI W0 W mb av bv cv jv rv lv fv ov lk uv gv zv yv R Lk Fx Ls U G Z Y) (hy : RdX stmE W yv' Y' (Ap mb gv uv fv ov)) : FinI W0 W mb av bv cv jv rv lv fv ov lk uv gv zv yv' R Lk Fx Ls U G Z Y' :=
 ⟨h.K, h.hb, h.M, h.R, h.L, h.F, h.O, h.U, h.G, h.Z, hy, h.d1, h.d2, h.d3⟩
/-- What lies behind all that there is. -/
theorem FinI.ap {W0 W : World} {mb : Nat} {av bv cv jv rv lv fv ov : Value} {lk : Bool} {uv gv zv yv : Value} {R : List Rol} {Lk : List Str} {Fx Ls : List Stm} {U : List Str} {G : List Rol} {Z Y : List Stm} (h : FinI W0 W mb av bv cv jv rv lv fv ov lk uv gv zv yv R Lk Fx Ls U G Z Y) {k : Nat} (hk : W.heap.size ≤ k) : Ap mb gv uv fv ov k := by
 have h1 := lt_of_heap h.M
 exact ⟨fun e => by have := own_lt h.G k e; omega, fun e => by have := own_lt h.U k e; omega, fun e => by have := own_lt h.F k e; omega, fun e => by have := own_lt h.O k e; omega, by omega⟩
/-- What reads on the way. -/
theorem FinI.put {W0 W : World} {mb : Nat} {av bv cv jv rv lv fv ov : Value} {lk : Bool} {uv gv zv yv : Value} {R : List Rol} {Lk : List Str} {Fx Ls : List Stm} {U : List Str} {G : List Rol} {Z Y : List Stm} (h : FinI W0 W mb av bv cv jv rv lv fv ov lk uv gv zv yv R Lk Fx Ls U G Z Y) {Q : Nat → Prop} (hq : ∀ k, k < W.heap.size → Q k → mb + 1 ≤ k) {W' : World} (hk : Keeps Q W W') : KF W0 W' ∧ W'.heap[mb]? = some (.cells #[rv, lv, .slice none 0 0, fv, ov, .slice none 0 0, .bool lk, av, bv, cv, jv] 118) :=
 ⟨h.K.trans_new hk (fun k hk2 e => by
  by_cases hlt : k < W.heap.size
  ·have := hq k hlt e; have := h.hb; omega
  ·have := h.K.size; omega), (hk.block _ (lt_of_heap h.M) (fun e => by have := hq _ (lt_of_heap h.M) e; omega)).trans h.M⟩
theorem FinI.who {W0 W : World} {mb : Nat} {av bv cv jv rv lv fv ov : Value} {lk : Bool} {uv gv zv yv : Value} {R : List Rol} {Lk : List Str} {Fx Ls : List Stm} {U : List Str} {G : List Rol} {Z Y : List Stm} {W' : World} {uv' : Value} {U' : List Str} (h : FinI W0 W mb av bv cv jv rv lv fv ov lk uv gv zv yv R Lk Fx Ls U G Z Y) (ho : OwnK strE (mb + 1) W' uv' U') (hk : Keeps (fun q => uv.ownBlock = some q) W W') (hf : ∀ k, (uv' : Value).ownBlock = some k → uv.ownBlock = some k ∨ W.heap.size ≤ k) : FinI W0 W' mb av bv cv jv rv lv fv ov lk uv' gv zv yv R Lk Fx Ls U' G Z Y := by
 obtain ⟨q1, q2⟩ := h.put (fun k _ e => own_block h.U k e) hk
 exact ⟨q1, h.hb, q2, ownsRow_keeps' h.R hk (fun q hq e => apart_of (Ne.symm rs_ne) h.U h.R q e hq), ownsRow_keeps' h.L hk (fun q hq e => h.d2 q e hq), ownsRow_keeps' h.F hk (fun q hq e => apart_of sm_ne h.U h.F q e hq), ownsRow_keeps' h.O hk (fun q hq e => apart_of sm_ne h.U h.O q e hq), ho, ownsRow_keeps' h.G hk (fun q hq e => apart_of (Ne.symm rs_ne) h.U h.G q e hq), h.Z.into hk (fun q _ hp e => hp.2.1 e) (fun q hq hp => ⟨hp.1, fun e => (hf q e).elim hp.2.1 (fun z => absurd hq (by omega)), hp.2.2.1, hp.2.2.2.1, hp.2.2.2.2⟩), h.Y.into hk (fun q _ hp e => hp.2.1 e) (fun q hq hp => ⟨hp.1, fun e => (hf q e).elim hp.2.1 (fun z => absurd hq (by omega)), hp.2.2.1, hp.2.2.2.1, hp.2.2.2.2⟩), h.d1, fun k e e2 => (hf k e).elim (fun z => h.d2 k z e2) (fun z => by have := own_lt h.L k e2; omega), h.d3⟩
theorem FinI.sig {W0 W : World} {mb : Nat} {av bv cv jv rv lv fv ov : Value} {lk : Bool} {uv gv zv yv : Value} {R : List Rol} {Lk : List Str} {Fx Ls : List Stm} {U : List Str} {G : List Rol} {Z Y : List Stm} {W' : World} {gv' : Value} {G' : List Rol} (h : FinI W0 W mb av bv cv jv rv lv fv ov lk uv gv zv yv R Lk Fx Ls U G Z Y) (ho : OwnK rolE (mb + 1) W' gv' G') (hk : Keeps (fun q => gv.ownBlock = some q) W W') (hf : ∀ k, (gv' : Value).ownBlock = some k → gv.ownBlock = some k ∨ W.heap.size ≤ k) : FinI W0 W' mb av bv cv jv rv lv fv ov lk uv gv' zv yv R Lk Fx Ls U G' Z Y := by
 obtain ⟨q1, q2⟩ := h.put (fun k _ e => own_block h.G k e) hk
 exact ⟨q1, h.hb, q2, ownsRow_keeps' h.R hk (fun q hq e => h.d1 q e hq), ownsRow_keeps' h.L hk (fun q hq e => apart_of rs_ne h.G h.L q e hq), ownsRow_keeps' h.F hk (fun q hq e => apart_of rm_ne h.G h.F q e hq), ownsRow_keeps' h.O hk (fun q hq e => apart_of rm_ne h.G h.O q e hq), ownsRow_keeps' h.U hk (fun q hq e => apart_of rs_ne h.G h.U q e hq), ho, h.Z.into hk (fun q _ hp e => hp.1 e) (fun q hq hp => ⟨fun e => (hf q e).elim hp.1 (fun z => absurd hq (by omega)), hp.2.1, hp.2.2.1, hp.2.2.2.1, hp.2.2.2.2⟩), h.Y.into hk (fun q _ hp e => hp.1 e) (fun q hq hp => ⟨fun e => (hf q e).elim hp.1 (fun z => absurd hq (by omega)), hp.2.1, hp.2.2.1, hp.2.2.2.1, hp.2.2.2.2⟩), fun k e e2 => (hf k e).elim (fun z => h.d1 k z e2) (fun z => by have := own_lt h.R k e2; omega), h.d2, h.d3⟩
theorem FinI.fix {W0 W : World} {mb : Nat} {av bv cv jv rv lv fv ov : Value} {lk : Bool} {uv gv zv yv : Value} {R : List Rol} {Lk : List Str} {Fx Ls : List Stm} {U : List Str} {G : List Rol} {Z Y : List Stm} {W' : World} {fv' : Value} {Fx' : List Stm} (h : FinI W0 W mb av bv cv jv rv lv fv ov lk uv gv zv yv R Lk Fx Ls U G Z Y) (ho : OwnK stmE (mb + 1) W' fv' Fx') (hk : Keeps (fun q => fv.ownBlock = some q) W W') (hf : ∀ k, (fv' : Value).ownBlock = some k → fv.ownBlock = some k ∨ W.heap.size ≤ k) : FinI W0 ((W'.setCell ⟨mb, 3, none⟩ fv')) mb av bv cv jv rv lv fv' ov lk uv gv zv yv R Lk Fx' Ls U G Z Y := by
 obtain ⟨q1, q2⟩ := h.put (fun k _ e => own_block h.F k e) hk
 have hk2 : Keeps (fun q => q = mb) W' (W'.setCell ⟨mb, 3, none⟩ fv') := Keeps.setCell (S := fun q => q = mb) (Keeps.refl _ _) (p := ⟨mb, 3, none⟩) (fun _ => rfl) _
 exact ⟨q1.trans_new hk2 (fun q hq e => by have e : q = mb := e; have := h.hb; omega), h.hb, heap_set q2 3 _, OwnK.keeps (E := rolE) (ownsRow_keeps' h.R hk (fun q hq e => apart_of (Ne.symm rm_ne) h.F h.R q e hq)) hk2 (fun q hq e => by have e : q = mb := e; omega), OwnK.keeps (E := strE) (ownsRow_keeps' h.L hk (fun q hq e => apart_of (Ne.symm sm_ne) h.F h.L q e hq)) hk2 (fun q hq e => by have e : q = mb := e; omega), ho.keeps hk2 (fun q hq e => by have e : q = mb := e; omega), OwnK.keeps (E := stmE) (ownsRow_keeps' h.O hk (fun q hq e =>  h.d3 q e hq)) hk2 (fun q hq e => by have e : q = mb := e; omega), OwnK.keeps (E := strE) (ownsRow_keeps' h.U hk (fun q hq e => apart_of (Ne.symm sm_ne) h.F h.U q e hq)) hk2 (fun q hq e => by have e : q = mb := e; omega), OwnK.keeps (E := rolE) (ownsRow_keeps' h.G hk (fun q hq e => apart_of (Ne.symm rm_ne) h.F h.G q e hq)) hk2 (fun q hq e => by have e : q = mb := e; omega), (h.Z.into hk (P' := Ap mb gv uv fv' ov) (fun q _ hp e => hp.2.2.1 e) (fun q hq hp => ⟨hp.1, hp.2.1, fun e => (hf q e).elim hp.2.2.1 (fun z => absurd hq (by omega)), hp.2.2.2.1, hp.2.2.2.2⟩)).into hk2 (fun q _ hp e => hp.2.2.2.2 e) (fun q _ hp => hp), (h.Y.into hk (P' := Ap mb gv uv fv' ov) (fun q _ hp e => hp.2.2.1 e) (fun q hq hp => ⟨hp.1, hp.2.1, fun e => (hf q e).elim hp.2.2.1 (fun z => absurd hq (by omega)), hp.2.2.2.1, hp.2.2.2.2⟩)).into hk2 (fun q _ hp e => hp.2.2.2.2 e) (fun q _ hp => hp), h.d1, h.d2, fun k e e2 => (hf k e).elim (fun z => h.d3 k z e2) (fun z => by have := own_lt h.O k e2; omega)⟩
theorem FinI.loose {W0 W : World} {mb : Nat} {av bv cv jv rv lv fv ov : Value} {lk : Bool} {uv gv zv yv : Value} {R : List Rol} {Lk : List Str} {Fx Ls : List Stm} {U : List Str} {G : List Rol} {Z Y : List Stm} {W' : World} {ov' : Value} {Ls' : List Stm} (h : FinI W0 W mb av bv cv jv rv lv fv ov lk uv gv zv yv R Lk Fx Ls U G Z Y) (ho : OwnK stmE (mb + 1) W' ov' Ls') (hk : Keeps (fun q => ov.ownBlock = some q) W W') (hf : ∀ k, (ov' : Value).ownBlock = some k → ov.ownBlock = some k ∨ W.heap.size ≤ k) : FinI W0 ((W'.setCell ⟨mb, 4, none⟩ ov')) mb av bv cv jv rv lv fv ov' lk uv gv zv yv R Lk Fx Ls' U G Z Y := by
 obtain ⟨q1, q2⟩ := h.put (fun k _ e => own_block h.O k e) hk
 have hk2 : Keeps (fun q => q = mb) W' (W'.setCell ⟨mb, 4, none⟩ ov') := Keeps.setCell (S := fun q => q = mb) (Keeps.refl _ _) (p := ⟨mb, 4, none⟩) (fun _ => rfl) _
 exact ⟨q1.trans_new hk2 (fun q hq e => by have e : q = mb := e; have := h.hb; omega), h.hb, heap_set q2 4 _, OwnK.keeps (E := rolE) (ownsRow_keeps' h.R hk (fun q hq e => apart_of (Ne.symm rm_ne) h.O h.R q e hq)) hk2 (fun q hq e => by have e : q = mb := e; omega), OwnK.keeps (E := strE) (ownsRow_keeps' h.L hk (fun q hq e => apart_of (Ne.symm sm_ne) h.O h.L q e hq)) hk2 (fun q hq e => by have e : q = mb := e; omega), OwnK.keeps (E := stmE) (ownsRow_keeps' h.F hk (fun q hq e =>  h.d3 q hq e)) hk2 (fun q hq e => by have e : q = mb := e; omega), ho.keeps hk2 (fun q hq e => by have e : q = mb := e; omega), OwnK.keeps (E := strE) (ownsRow_keeps' h.U hk (fun q hq e => apart_of (Ne.symm sm_ne) h.O h.U q e hq)) hk2 (fun q hq e => by have e : q = mb := e; omega), OwnK.keeps (E := rolE) (ownsRow_keeps' h.G hk (fun q hq e => apart_of (Ne.symm rm_ne) h.O h.G q e hq)) hk2 (fun q hq e => by have e : q = mb := e; omega), (h.Z.into hk (P' := Ap mb gv uv fv ov') (fun q _ hp e => hp.2.2.2.1 e) (fun q hq hp => ⟨hp.1, hp.2.1, hp.2.2.1, fun e => (hf q e).elim hp.2.2.2.1 (fun z => absurd hq (by omega)), hp.2.2.2.2⟩)).into hk2 (fun q _ hp e => hp.2.2.2.2 e) (fun q _ hp => hp), (h.Y.into hk (P' := Ap mb gv uv fv ov') (fun q _ hp e => hp.2.2.2.1 e) (fun q hq hp => ⟨hp.1, hp.2.1, hp.2.2.1, fun e => (hf q e).elim hp.2.2.2.1 (fun z => absurd hq (by omega)), hp.2.2.2.2⟩)).into hk2 (fun q _ hp e => hp.2.2.2.2 e) (fun q _ hp => hp), h.d1, h.d2, fun k e e2 => (hf k e2).elim (fun z => h.d3 k e z) (fun z => by have := own_lt h.F k e; omega)⟩
theorem FinI.link {W0 W : World} {mb : Nat} {av bv cv jv rv lv fv ov : Value} {lk : Bool} {uv gv zv yv : Value} {R : List Rol} {Lk : List Str} {Fx Ls : List Stm} {U : List Str} {G : List Rol} {Z Y : List Stm} (h : FinI W0 W mb av bv cv jv rv lv fv ov lk uv gv zv yv R Lk Fx Ls U G Z Y) (lk' : Bool) : FinI W0 ((W.setCell ⟨mb, 6, none⟩ (.bool lk'))) mb av bv cv jv rv lv fv ov lk' uv gv zv yv R Lk Fx Ls U G Z Y := by
 have hk2 : Keeps (fun q => q = mb) W (W.setCell ⟨mb, 6, none⟩ (.bool lk')) := Keeps.setCell (S := fun q => q = mb) (Keeps.refl _ _) (p := ⟨mb, 6, none⟩) (fun _ => rfl) _
 exact ⟨h.K.trans_new hk2 (fun q hq e => by have e : q = mb := e; have := h.hb; omega), h.hb, heap_set h.M 6 _, h.R.keeps hk2 (fun q hq e => by have e : q = mb := e; omega), h.L.keeps hk2 (fun q hq e => by have e : q = mb := e; omega), h.F.keeps hk2 (fun q hq e => by have e : q = mb := e; omega), h.O.keeps hk2 (fun q hq e => by have e : q = mb := e; omega), h.U.keeps hk2 (fun q hq e => by have e : q = mb := e; omega), h.G.keeps hk2 (fun q hq e => by have e : q = mb := e; omega), h.Z.into hk2 (fun q _ hp e => hp.2.2.2.2 e) (fun q _ hp => hp), h.Y.into hk2 (fun q _ hp e => hp.2.2.2.2 e) (fun q _ hp => hp), h.d1, h.d2, h.d3⟩
end Go.Proofs.YtckikkkdabpjkaaGreat
