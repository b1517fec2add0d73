/-
 A maker is finished: who counts, what stays, what may go, what tells new principals apart.
-/
import Derived.Test.YtckikkkdabpjkaaGreatMC
import Derived.Test.YtckikkkdabpjkaaGreatMM
import Derived.Test.YtckikkkdabpjkaaGreatMO
set_option linter.unusedVariables false
set_option linter.unusedSimpArgs false
set_option linter.unnecessarySimpa false
namespace Go.Proofs.YtckikkkdabpjkaaGreat
open Go.ChangeShapes Go.WideShapes Go.ChangeAt Go.RowKit Go.Deep
def whoF (F : List Stm) : List Str := F.flatMap (fun x => if x.2.1 = 1 then [x.2.2.1] else [])
def sigF (F : List Stm) : List Rol := F.flatMap (fun x => if x.2.1 = 3 ∨ x.2.1 = 4 then [x.2.2.2.1] else [])
def fixF (sh : List Rol) (F : List Stm) : List Stm := F.filter (fun x => decide (x.1 ∈ sh))
def looF (sh : List Rol) (F : List Stm) : List Stm := F.filter (fun x => !decide (x.1 ∈ sh))
def lkF (F : List Stm) : Bool := F.any (fun x => decide (x.2.1 = 3))
def catF (Lk : List Str) (C : List Rol) : List Str := (C.filter (fun r => decide (r.2 ∈ Lk))).map (·.1)
theorem take_snoc {α : Type} {F : List α} {i : Nat} {y : α} (h : F[i]? = some y) : F.take (i + 1) = F.take i ++ [y] := by rw [List.take_add_one, h]; rfl
theorem whoF_next {F : List Stm} {i : Nat} {y : Stm} (h : F[i]? = some y) : whoF (F.take (i + 1)) = whoF (F.take i) ++ (if y.2.1 = 1 then [y.2.2.1] else []) := by
 rw [take_snoc h]; simp [whoF]
theorem sigF_next {F : List Stm} {i : Nat} {y : Stm} (h : F[i]? = some y) : sigF (F.take (i + 1)) = sigF (F.take i) ++ (if y.2.1 = 3 ∨ y.2.1 = 4 then [y.2.2.2.1] else []) := by
 rw [take_snoc h]; simp [sigF]
theorem fixF_yes {sh : List Rol} {F : List Stm} {i : Nat} {y : Stm} (h : F[i]? = some y) (hy : y.1 ∈ sh) : fixF sh (F.take (i + 1)) = fixF sh (F.take i) ++ [y] ∧ looF sh (F.take (i + 1)) = looF sh (F.take i) := by
 rw [take_snoc h]; simp [fixF, looF, hy]
theorem fixF_no {sh : List Rol} {F : List Stm} {i : Nat} {y : Stm} (h : F[i]? = some y) (hy : y.1 ∉ sh) : fixF sh (F.take (i + 1)) = fixF sh (F.take i) ∧ looF sh (F.take (i + 1)) = looF sh (F.take i) ++ [y] := by
 rw [take_snoc h]; simp [fixF, looF, hy]
theorem lkF_next {F : List Stm} {i : Nat} {y : Stm} (h : F[i]? = some y) : lkF (F.take (i + 1)) = (lkF (F.take i) || decide (y.2.1 = 3)) := by
 rw [take_snoc h]; simp [lkF]
theorem catF_yes {Lk : List Str} {F : List Rol} {i : Nat} {y : Rol} (h : F[i]? = some y) (hy : y.2 ∈ Lk) : catF Lk (F.take (i + 1)) = catF Lk (F.take i) ++ [y.1] := by
 rw [take_snoc h]; simp [catF, hy]
theorem catF_no {Lk : List Str} {F : List Rol} {i : Nat} {y : Rol} (h : F[i]? = some y) (hy : y.2 ∉ Lk) : catF Lk (F.take (i + 1)) = catF Lk (F.take i) := by
 rw [take_snoc h]; simp [catF, hy]
theorem flat1_len {α β : Type} {f : α → List β} (h : ∀ x, (f x).length ≤ 1) : ∀ l : List α, (l.flatMap f).length ≤ l.length
 | [] => by simp
 | x :: l => by
  have := flat1_len h l
  have := h x
  simp only [List.flatMap_cons, List.length_append, List.length_cons]
  omega
def accU (R : List Rol) (F : List Stm) (i : Nat) : List Str := R.map (·.1) ++ whoF (F.take i)
def accG (B : Rol) (F : List Stm) (i : Nat) : List Rol := B :: sigF (F.take i)
def accC (U : List Str) (Lk : List Str) (C : List Rol) (i : Nat) : List Str := U ++ catF Lk (C.take i)
theorem accU_yes {R : List Rol} {F : List Stm} {i : Nat} {y : Stm} (h : F[i]? = some y) (hk : y.2.1 = 1) : accU R F (i + 1) = accU R F i ++ [y.2.2.1] := by
 unfold accU
 rw [whoF_next h, if_pos hk, List.append_assoc]
theorem accU_no {R : List Rol} {F : List Stm} {i : Nat} {y : Stm} (h : F[i]? = some y) (hk : y.2.1 ≠ 1) : accU R F (i + 1) = accU R F i := by
 unfold accU
 rw [whoF_next h, if_neg hk, List.append_nil]
theorem accG_yes {B : Rol} {F : List Stm} {i : Nat} {y : Stm} (h : F[i]? = some y) (hk : y.2.1 = 3 ∨ y.2.1 = 4) : accG B F (i + 1) = accG B F i ++ [y.2.2.2.1] := by
 unfold accG
 rw [sigF_next h, if_pos hk, List.cons_append]
theorem accG_no {B : Rol} {F : List Stm} {i : Nat} {y : Stm} (h : F[i]? = some y) (hk : ¬(y.2.1 = 3 ∨ y.2.1 = 4)) : accG B F (i + 1) = accG B F i := by
 unfold accG
 rw [sigF_next h, if_neg hk, List.append_nil]
theorem accC_yes {U Lk : List Str} {C : List Rol} {i : Nat} {y : Rol} (h : C[i]? = some y) (hy : y.2 ∈ Lk) : accC U Lk C (i + 1) = accC U Lk C i ++ [y.1] := by
 unfold accC
 rw [catF_yes h hy, List.append_assoc]
theorem accC_no {U Lk : List Str} {C : List Rol} {i : Nat} {y : Rol} (h : C[i]? = some y) (hy : y.2 ∉ Lk) : accC U Lk C (i + 1) = accC U Lk C i := by
 unfold accC
 rw [catF_no h hy]
theorem whoF_len (F : List Stm) (i : Nat) : (whoF (F.take i)).length ≤ F.length := Nat.le_trans (flat1_len (fun x => by split <;> simp) _) (by rw [List.length_take]; omega)
theorem sigF_len (F : List Stm) (i : Nat) : (sigF (F.take i)).length ≤ F.length := Nat.le_trans (flat1_len (fun x => by split <;> simp) _) (by rw [List.length_take]; omega)
theorem fixF_len (sh : List Rol) (F : List Stm) (i : Nat) : (fixF sh (F.take i)).length ≤ F.length := Nat.le_trans (List.length_filter_le _ _) (by rw [List.length_take]; omega)
theorem looF_len (sh : List Rol) (F : List Stm) (i : Nat) : (looF sh (F.take i)).length ≤ F.length := Nat.le_trans (List.length_filter_le _ _) (by rw [List.length_take]; omega)
theorem catF_len (Lk : List Str) (C : List Rol) (i : Nat) : (catF Lk (C.take i)).length ≤ C.length := by
 unfold catF
 rw [List.length_map]
 exact Nat.le_trans (List.length_filter_le _ _) (by rw [List.length_take]; omega)
theorem one_at {α : Type} {E : Elt α} {w : World} {b n c : Nat} {y : α} {P : Nat → Prop} (h : RdX E w (.slice (some ⟨b, 0, none⟩) n c) [y] P) : ∀ (i : Nat) (u : Value), (E.enc y)[i]? = some u → w.cell? ⟨b, i, none⟩ = some u := fun i u hu => by
 obtain ⟨ao, cap, e, hle, hr⟩ := h.1.1
 obtain ⟨g, off, hao, _, hcc⟩ := hr (by simp)
 simp only [Value.slice.injEq] at e
 obtain ⟨rfl, _, _⟩ := e
 simp only [Option.some.injEq, Addr.mk.injEq, and_true] at hao
 obtain ⟨rfl, rfl⟩ := hao
 have := hcc 0 y rfl i u hu
 simpa using this
theorem accU_len (R : List Rol) (F : List Stm) (i : Nat) : (accU R F i).length ≤ R.length + F.length := by
 unfold accU
 have := whoF_len F i
 rw [List.length_append, List.length_map]
 omega
theorem accG_len (B : Rol) (F : List Stm) (i : Nat) : (accG B F i).length ≤ F.length + 1 := by
 unfold accG
 have := sigF_len F i
 rw [List.length_cons]
 omega
theorem accC_len (U Lk : List Str) (C : List Rol) (i : Nat) : (accC U Lk C i).length ≤ U.length + C.length := by
 unfold accC
 have := catF_len Lk C i
 rw [List.length_append]
 omega
/-- A row literal of one element, as a row of one's own. -/
theorem ownK_one {α : Type} (E : Elt α) (W : World) (x : α) (c : Array Value) (hc : c.toList = E.enc x) : OwnK E W.heap.size (W.alloc (.cells c E.T)) (.slice (some ⟨W.heap.size, 0, none⟩) 1 1) [x] := by
 have ha := (MapKept.heap_alloc W (.cells c E.T)).1
 have hz : c.size = 1 * E.k := by rw [Nat.one_mul, ← E.len x, ← hc]; simp
 refine HoS.own (cap := 1) ⟨⟨lt_of_heap ha, fun j y hj i u hu => ⟨?_, Lib.frozen_of_heap ha _⟩⟩, ⟨c, ha, hz⟩⟩ (Nat.le_refl _) (by simp) (by unfold maxLen; omega)
 match j, hj with
 | 0, hj =>
  obtain rfl : x = y := by simpa using hj
  rw [Nat.zero_mul, Nat.add_zero, Nat.zero_add, cell_of_heap ha, ← Array.getElem?_toList, hc]
  exact hu
 | j + 1, hj => simp at hj
theorem size_alloc (w : World) (o : Obj) : (w.alloc o).heap.size = w.heap.size + 1 := by
 have h1 := lt_of_heap (MapKept.heap_alloc w o).1
 have : (w.alloc o).heap = w.heap.push o := rfl
 rw [this, Array.size_push]
/-- What a maker is when it is finished. -/
structure FinO (W0 W : World) (mb : Nat) (av bv cv jv rv lv pv fv ov gv : Value) (lk : Bool) (R : List Rol) (Lk P : List Str) (Fx Ls : List Stm) (G : List Rol) : Prop where
 K : KF W0 W
 M : W.heap[mb]? = some (.cells #[rv, lv, pv, fv, ov, gv, .bool lk, av, bv, cv, jv] 118)
 R : OwnK rolE (mb + 1) W rv R
 L : OwnK strE (mb + 1) W lv Lk
 P : OwnK strE (mb + 1) W pv P
 F : OwnK stmE (mb + 1) W fv Fx
 O : OwnK stmE (mb + 1) W ov Ls
 G : OwnK rolE (mb + 1) W gv G
set_option maxRecDepth 100000
set_option maxHeartbeats 6400000
theorem finish_spec {W0 W : World} {mb : Nat} {ao bo co ro lo : Option Addr} {an ac bn bc cn cc rn rc ln lc : Nat} {jv : Value} {R0 gr sh : List Rol} {L0 : List Str} {st : List Stm} (hm : MkI W0 W mb (.slice ao an ac) (.slice bo bn bc) (.slice co cn cc) jv (.slice ro rn rc) (.slice lo ln lc) R0 L0) (ha : SrcK stmE W0 (.slice ao an ac) st) (hg : SrcK rolE W0 (.slice bo bn bc) gr) (hs : SrcK rolE W0 (.slice co cn cc) sh) (h1 : R0.length ≤ 9000) (h2 : L0.length ≤ 9000) (h3 : gr.length ≤ 100) (h4 : sh.length ≤ 100) (h5 : st.length ≤ 100) (q : Qry) (qv : Value) (hjv : ∃ (jo : Option Addr) (jn jc : Nat), jv = .slice jo jn jc) :
 Calls Tryz.prog 114 #[.pointer (some ⟨mb, 0, none⟩), qryV q qv] W fun e W' => e = .returned (.tuple #[]) ∧ ∃ pv fv ov gv, Hid (FinO W0 W' mb (.slice ao an ac) (.slice bo bn bc) (.slice co cn cc) jv (.slice ro rn rc) (.slice lo ln lc) pv fv ov gv (lkF (st.filter (folB gr sh R0 L0))) R0 L0 (tabL (R0.map (·.1) ++ whoF (st.filter (folB gr sh R0 L0)) ++ catF L0 (gr ++ sh))) (fixF sh (st.filter (folB gr sh R0 L0))) (looF sh (st.filter (folB gr sh R0 L0))) (sortO rolLt (q.2.2.1 :: sigF (st.filter (folB gr sh R0 L0))))) := by
 obtain ⟨qk, ⟨qa1, qa2⟩, ⟨qb1, qb2⟩, qw⟩ := q
 unfold qryV
 simp only
 have HG := Lib.hid hg
 have hs1 := Lib.hid (show SrcK rolE W0 _ sh from hs)
 have HFS : Hid (∀ (w : World) (po fo oo so jo : Option Addr) (pn pc fn fc on oc sn sc jn jc : Nat) (lk : Bool), KF W0 w → w.heap[mb]? = some (.cells #[.slice ro rn rc, .slice lo ln lc, .slice po pn pc, .slice fo fn fc, .slice oo on oc, .slice so sn sc, .bool lk, .slice ao an ac, .slice bo bn bc, .slice co cn cc, .slice jo jn jc] 118) → RdK rolE w (.slice ro rn rc) R0 → ReadsS w (.slice lo ln lc) L0 → Calls Tryz.prog 168 #[.pointer (some ⟨mb, 0, none⟩)] w fun e W' => ∃ v, e = .returned v ∧ Hid (RdX stmE W' v (st.filter (folB gr sh R0 L0)) (fun k => w.heap.size ≤ k) ∧ KF w W')) := fun w po fo oo so jo pn pc fn fc on oc sn sc jn jc lk hk hM hR hL => followed_spec hM hR hL (ha.keeps hk) (hg.1.keeps hk) (hs.1.keeps hk) (by omega) (by omega) (by omega) (by omega) (by omega)
 have hfl : (st.filter (folB gr sh R0 L0)).length ≤ 100 := Nat.le_trans (List.length_filter_le _ _) h5
 obtain ⟨F, hFe⟩ : ∃ F, (st.filter (folB gr sh R0 L0)) = F := ⟨_, rfl⟩
 rw [hFe] at HFS hfl ⊢
 clear hFe ha hg hs h5
 have hrn : rn = R0.length := by
  obtain ⟨_, _, eR, _⟩ := id hm.R.reads
  simp only [Value.slice.injEq] at eR
  exact eR.2.1
 have HRN := Lib.hid hrn
 -- the query's box, the query's second role
 have hal := (MapKept.heap_alloc W (.cells #[.int .i64 qk, .string ⟨qa1.toArray⟩, .string ⟨qa2.toArray⟩, .string ⟨qb1.toArray⟩, .string ⟨qb2.toArray⟩, qv] 31)).1
 obtain ⟨WA, hWA⟩ : ∃ q, W.alloc (.cells #[.int .i64 qk, .string ⟨qa1.toArray⟩, .string ⟨qa2.toArray⟩, .string ⟨qb1.toArray⟩, .string ⟨qb2.toArray⟩, qv] 31) = q := ⟨_, rfl⟩
 have hkA : KF W WA := by rw [← hWA]; exact (Keeps.refl _ _).alloc _
 rw [hWA] at hal
 obtain ⟨WB, hWB⟩ : ∃ q, WA.alloc (bR qb1 qb2) = q := ⟨_, rfl⟩
 have hkB : KF WA WB := by rw [← hWB]; exact (Keeps.refl _ _).alloc _
 have hsz : mb + 1 ≤ WA.heap.size := by have := lt_of_heap hm.M; have := hkA.size; omega
 have hmB := hm.keeps (hkA.trans hkB)
 have HI0 : Hid (FinI W0 WB mb (.slice ao an ac) (.slice bo bn bc) (.slice co cn cc) jv (.slice ro rn rc) (.slice lo ln lc) (.slice none 0 0) (.slice none 0 0) false (.slice none 0 0) (.slice (some ⟨WA.heap.size, 0, none⟩) 1 1) (.slice none 0 0) (.slice none 0 0) R0 L0 ([]) ([]) ([]) ([(qb1, qb2)]) ([]) ([])) := by
  have hG : OwnK rolE (mb + 1) WB (.slice (some ⟨WA.heap.size, 0, none⟩) 1 1) [(qb1, qb2)] := by
   rw [← hWB]
   exact (ownK_one rolE WA (qb1, qb2) _ rfl).base hsz
  exact ⟨hmB.K, hmB.hb, hmB.M, hmB.R, hmB.L, ownK_nil _ _ _, ownK_nil _ _ _, ownK_nil _ _ _, hG, rdX_nil _ _ _, rdX_nil _ _ _, fun k e e2 => by
   have := own_lt (hm.R.keeps hkA (fun _ _ x => x)) k e2
   simp only [Value.ownBlock, Option.map_some, Option.some.injEq] at e
   omega, fun k e => by simp [Value.ownBlock] at e, fun k e => by simp [Value.ownBlock] at e⟩
 obtain ⟨gb, hgb⟩ : ∃ q, WA.heap.size = q := ⟨_, rfl⟩
 rw [hgb] at HI0
 have hM2 := (hkA.block _ (lt_of_heap hm.M) (fun x => x)).trans hm.M
 obtain ⟨m0, n0, m1, n1, m2, n2, m3, n3, m4, n4, m5, n5, m6, n6, m7, n7, m8, n8, m9, n9, m10, n10⟩ := cf11 HI0.out.M
 clear n0 n1 n2 n3 n4 n5 n6 n7 n8 n9 n10 m1 m2 m3 m4 m5 m6 m7 m8 m9 m10
 obtain ⟨c0, d0, c1, d1, c2, d2, c3, d3, c4, d4, c5, d5⟩ := cf6 hal
 clear d0 d1 d2 d3 d4 d5 hal hkA hkB hsz hmB hM2 hrn hm
 go_enter Tryz.func114, Tryz.ntmps114
 go_upto_region 2 with fail
 (try simp only [hWA])
 go_upto_region 3 with fail
 (try simp only [hWB, hgb])
 clear c0 c1 c2 c3 c4 c5 hWA hWB hgb
 go_wp2_with fail
 go_loopg [4, 21] rn (fun g u t wx => ∃ (i : Nat) (uv : Value), i ≤ rn ∧ g = rn - i ∧ t = .int .i64 i ∧ uv = u ∧ Hid (FinI W0 wx mb (.slice ao an ac) (.slice bo bn bc) (.slice co cn cc) jv (.slice ro rn rc) (.slice lo ln lc) (.slice none 0 0) (.slice none 0 0) false uv (.slice (some ⟨gb, 0, none⟩) 1 1) (.slice none 0 0) (.slice none 0 0) R0 L0 ([]) ([]) (((R0.map (·.1)).take i)) ([(qb1, qb2)]) ([]) ([])))
 case atStart => exact ⟨0, _, Nat.zero_le _, rfl, rfl, rfl, HI0.out⟩
 case round =>
  clear HI0 m0
  obtain ⟨i, uv, hi, rfl, rfl, rfl, HI⟩ := hrel
  by_cases hlt : i < rn
  ·skip
   have hiI : (i : Int) < (rn : Int) := by omega
   have hwi : IntKind.i64.wrap ((i : Int) + 1) = (i : Int) + 1 := IntWalk.i64_in _ (by have := HRN.out; omega)
   obtain ⟨y, hy⟩ : ∃ y, R0[i]? = some y := ⟨_, List.getElem?_eq_getElem (by rw [← HRN.out]; exact hlt)⟩
   obtain ⟨aoz, cpz, ez, hez, hrz⟩ := id HI.out.R.reads
   obtain ⟨g, off, hao, hg, hcc⟩ := hrz (by rw [← HRN.out]; omega)
   simp only [Value.slice.injEq] at ez
   obtain ⟨rfl, hzz, rfl⟩ := ez
   subst hao
   have hicap : i < rc := by omega
   have hc := hcc i y hy
   obtain ⟨yr1, yr2⟩ := y
   have HNX := Lib.hid (map_next (·.1) hy)
   clear hcc hrz hez hzz
   have c0 : wr.cell? ⟨g, off + i * 2, none⟩ = some (.string ⟨yr1.toArray⟩) := hc 0 _ rfl
   have c1 : wr.cell? ⟨g, off + i * 2 + 1, none⟩ = some (.string ⟨yr2.toArray⟩) := hc 1 _ rfl
   have hal := (MapKept.heap_alloc wr (bR yr1 yr2)).1
   have hka : KF wr (wr.alloc (bR yr1 yr2)) := (Keeps.refl _ _).alloc _
   have HB := Lib.hid hal
   have HJ := Lib.hid (HI.out.keeps hka)
   obtain ⟨b, hb⟩ : ∃ b, wr.heap.size = b := ⟨_, rfl⟩
   rw [hb] at HB
   go_upto_region 6 with fail
   (try simp only [hb])
   clear hal hka hb HI hc c0 c1 hy hg
   generalize wr.alloc (bR yr1 yr2) = w2 at *
   obtain ⟨p0, f0, p1, f1⟩ := cf2 HB.out
   have HK2 := Lib.hid (HJ.out.keeps (((Keeps.refl (fun _ => False) w2)).alloc (.cells #[.string ⟨yr1.toArray⟩] 9)))
   have HSZ := Lib.hid (show mb + 1 ≤ (w2.alloc (.cells #[.string ⟨yr1.toArray⟩] 9)).heap.size from lt_of_heap HK2.out.M)
   have HLE : Hid (((R0.map (·.1)).take i).length + 1 ≤ 100000) := by show _ ≤ _; rw [List.length_take, List.length_map]; omega
   go_wp2_with (at_builtin; refine app_fp (E := strE) rfl _ _ rfl (mb + 1) uv ((R0.map (·.1)).take i) rfl HK2.out.U _ [yr1] rfl (srcK_str (one_srcS w2 yr1)).1 (by simp) (by have := HLE.out; simp only [List.length_cons, List.length_nil]; omega) HSZ.out ?_)
   intro ao' cap' w6 ho hk hf
   have HN := HK2.out.who ho hk (fun k e => (hf k e).imp id (fun z => by rw [size_alloc]; exact z))
   rw [← HNX.out] at HN
   replace HN := Lib.hid HN
   clear HB HJ HK2 HSZ HLE HNX ho hk hf p0 f0 p1 f1
   go_wp2_with fail
   go_roundg (rn - (i + 1))
   case measure => omega
   case rel => exact ⟨i + 1, _, by omega, rfl, by go_num, rfl, HN⟩
  ·obtain rfl : rn = i := by omega
   have hiI : ¬ (rn : Int) < (rn : Int) := by omega
   have HI1 : Hid (FinI W0 wr mb (.slice ao an ac) (.slice bo bn bc) (.slice co cn cc) jv (.slice ro rn rc) (.slice lo ln lc) (.slice none 0 0) (.slice none 0 0) false uv (.slice (some ⟨gb, 0, none⟩) 1 1) (.slice none 0 0) (.slice none 0 0) R0 L0 ([]) ([]) ((R0.map (·.1))) ([(qb1, qb2)]) ([]) ([])) := by
    have q := HI.out
    rw [List.take_of_length_le (by rw [List.length_map, ← HRN.out]; exact Nat.le_refl _)] at q
    exact q
   clear HI
   obtain ⟨m0, n0, m1, n1, m2, n2, m3, n3, m4, n4, m5, n5, m6, n6, m7, n7, m8, n8, m9, n9, m10, n10⟩ := cf11 HI1.out.M
   clear n0 n1 n2 n3 n4 n5 n6 n7 n8 n9 n10 m0 m1 m2 m3 m4 m5 m6 m7 m8 m9 m10
   have HLR : Hid (R0.length ≤ 9000) := h1
   have HJV : Hid (∃ (jo : Option Addr) (jn jc : Nat), jv = .slice jo jn jc) := hjv
   obtain ⟨jo, jn, jc, hjo⟩ := hjv
   have HC := Lib.hid (HFS.out wr none none none none jo 0 0 0 0 0 0 0 0 jn jc false HI1.out.K (by rw [← hjo]; exact HI1.out.M) HI1.out.R.reads (ownK_str.1 HI1.out.L).reads)
   clear HFS
   go_upto_region 8 with fail
   go_wp2_with fail
   refine HC.out.mono ?_
   rintro e w2 ⟨fvv, rfl, hf⟩
   obtain ⟨aoF, cpF, hvF, hleF, _⟩ := id hf.out.1.1.1
   subst hvF
   obtain ⟨nF, hnF⟩ : ∃ n, F.length = n := ⟨_, rfl⟩
   have HNF := Lib.hid hnF
   have hsz := hf.out.2.size
   have HI2 : Hid (FinI W0 w2 mb (.slice ao an ac) (.slice bo bn bc) (.slice co cn cc) jv (.slice ro rn rc) (.slice lo ln lc) (.slice none 0 0) (.slice none 0 0) ((lkF (F.take 0))) uv (.slice (some ⟨gb, 0, none⟩) 1 1) (.slice aoF F.length cpF) (.slice none 0 0) R0 L0 ((fixF sh (F.take 0))) ((looF sh (F.take 0))) ((accU R0 F 0)) ((accG (qb1, qb2) F 0)) F ([])) := by
    rw [show accU R0 F 0 = R0.map (·.1) from List.append_nil _]
    refine (HI1.out.keeps hf.out.2).over (hf.out.1.into (Keeps.refl (fun _ => False) _) (fun _ _ _ x => x) (fun k hk hp => ?_))
    exact HI1.out.ap hp
   rw [hnF] at HI2 hleF hfl ⊢
   clear hf HC hsz hnF HI1
   go_wp2_with fail
   go_loopg [4, 5, 34] nF (fun g u s t wx => ∃ (i : Nat) (uv gv fv ov : Value), i ≤ nF ∧ g = nF - i ∧ t = .int .i64 i ∧ uv = u ∧ gv = s ∧ Hid (FinI W0 wx mb (.slice ao an ac) (.slice bo bn bc) (.slice co cn cc) jv (.slice ro rn rc) (.slice lo ln lc) fv ov ((lkF (F.take i))) uv gv (.slice aoF nF cpF) (.slice none 0 0) R0 L0 ((fixF sh (F.take i))) ((looF sh (F.take i))) ((accU R0 F i)) ((accG (qb1, qb2) F i)) F ([])))
   case atStart => exact ⟨0, _, _, _, _, Nat.zero_le _, rfl, rfl, rfl, rfl, HI2⟩
   case round =>
    clear HI2
    obtain ⟨i, uv, gv, fv, ov, hi, rfl, rfl, rfl, rfl, HI⟩ := hrel
    by_cases hlt : i < nF
    ·skip
     have hiI : (i : Int) < (nF : Int) := by omega
     have hwi : IntKind.i64.wrap ((i : Int) + 1) = (i : Int) + 1 := IntWalk.i64_in _ (by omega)
     have hicap : i < cpF := by omega
     obtain ⟨y, hy⟩ : ∃ y, F[i]? = some y := ⟨_, List.getElem?_eq_getElem (by rw [HNF.out]; exact hlt)⟩
     obtain ⟨aoz, cpz, ez, hez, hrz⟩ := id HI.out.Z.1.1
     obtain ⟨g, off, hao, hg, hcc⟩ := hrz (by rw [HNF.out]; omega)
     simp only [Value.slice.injEq] at ez
     obtain ⟨rfl, hzz, rfl⟩ := ez
     subst hao
     have hc := hcc i y hy
     have HY := Lib.hid hy
     obtain ⟨⟨yh1, yh2⟩, yk, yo, ⟨ya1, ya2⟩, ⟨yb1, yb2⟩, yi⟩ := y
     clear hcc hrz hez hzz hy
     obtain ⟨c0, c1, c2, c3, c4, c5, c6, c7, c8⟩ := n9 hc
     have hka : KF wr (wr.alloc (bM yk yh1 yh2 yo ya1 ya2 yb1 yb2 yi)) := (Keeps.refl _ _).alloc _
     obtain ⟨b, hb⟩ : ∃ b, wr.heap.size = b := ⟨_, rfl⟩
     have HB : Hid (FinI W0 ((wr.alloc (bM yk yh1 yh2 yo ya1 ya2 yb1 yb2 yi))) mb (.slice ao an ac) (.slice bo bn bc) (.slice co cn cc) jv (.slice ro rn rc) (.slice lo ln lc) fv ov ((lkF (F.take i))) uv gv (.slice (some ⟨g, off, none⟩) nF cpF) (.slice (some ⟨b, 0, none⟩) 1 1) R0 L0 ((fixF sh (F.take i))) ((looF sh (F.take i))) ((accU R0 F i)) ((accG (qb1, qb2) F i)) F ([((yh1, yh2), yk, yo, (ya1, ya2), (yb1, yb2), yi)])) := by
      refine (HI.out.keeps hka).one ⟨by rw [← hb]; exact one_srcK (E := stmE) wr ((yh1, yh2), yk, yo, (ya1, ya2), (yb1, yb2), yi) #[.int .i64 yk, .string ⟨yh1.toArray⟩, .string ⟨yh2.toArray⟩, .string ⟨yo.toArray⟩, .string ⟨ya1.toArray⟩, .string ⟨ya2.toArray⟩, .string ⟨yb1.toArray⟩, .string ⟨yb2.toArray⟩, .string ⟨yi.toArray⟩] rfl, fun k hk => ?_⟩
      simp only [Value.ownBlock, Option.map_some, Option.some.injEq] at hk
      have h7 := lt_of_heap (MapKept.heap_alloc wr (bM yk yh1 yh2 yo ya1 ya2 yb1 yb2 yi)).1
      refine ⟨by omega, ?_⟩
      exact HI.out.ap (by omega)
     have HSH := Lib.hid (fun (w : World) (hk : KF W0 w) => phas_spec (hs1.out.1.keeps hk) (by omega) (yh1, yh2))
     go_upto_region 11 with fail
     (try simp only [hb])
     clear hka hb HI hc c0 c1 c2 c3 c4 c5 c6 c7 c8
     generalize wr.alloc (bM yk yh1 yh2 yo ya1 ya2 yb1 yb2 yi) = w3 at *
     have p0 := one_at HB.out.Y 0 _ rfl
     have p1 := one_at HB.out.Y 1 _ rfl
     have p2 := one_at HB.out.Y 2 _ rfl
     have p3 := one_at HB.out.Y 3 _ rfl
     have p4 := one_at HB.out.Y 4 _ rfl
     have p5 := one_at HB.out.Y 5 _ rfl
     have p6 := one_at HB.out.Y 6 _ rfl
     have p7 := one_at HB.out.Y 7 _ rfl
     have p8 := one_at HB.out.Y 8 _ rfl
     have m9 := (cf11 HB.out.M).2.2.2.2.2.2.2.2.2.2.2.2.2.2.2.2.2.2.1
     obtain ⟨x, hx⟩ : ∃ x, decide ((yh1, yh2) ∈ sh) = x := ⟨_, rfl⟩
     rw [hx] at HSH
     have HX := Lib.hid hx
     clear hx
     have HMK92 : Hid (∀ w' : World, KF w3 w' → w'.cell? ⟨mb, 9, none⟩ = some (.slice co cn cc) ∧ w'.cell? ⟨b, 0, none⟩ = some (.int .i64 yk) ∧ w'.cell? ⟨b, 1, none⟩ = some (.string ⟨yh1.toArray⟩) ∧ w'.cell? ⟨b, 2, none⟩ = some (.string ⟨yh2.toArray⟩) ∧ w'.cell? ⟨b, 3, none⟩ = some (.string ⟨yo.toArray⟩) ∧ w'.cell? ⟨b, 4, none⟩ = some (.string ⟨ya1.toArray⟩) ∧ w'.cell? ⟨b, 5, none⟩ = some (.string ⟨ya2.toArray⟩) ∧ w'.cell? ⟨b, 6, none⟩ = some (.string ⟨yb1.toArray⟩) ∧ w'.cell? ⟨b, 7, none⟩ = some (.string ⟨yb2.toArray⟩) ∧ w'.cell? ⟨b, 8, none⟩ = some (.string ⟨yi.toArray⟩)) := fun w' hk => ⟨kc hk m9, kc hk p0, kc hk p1, kc hk p2, kc hk p3, kc hk p4, kc hk p5, kc hk p6, kc hk p7, kc hk p8⟩
     have HKX92 : Hid (KF w3 w3.drew) := (Keeps.refl _ _).drew
     have hS0 := HMK92.out _ HKX92.out
     clear m9 p0 p1 p2 p3 p4 p5 p6 p7 p8
     refine wp_region_noPanic ?_
     refine wp_region_held_drew (S := (fun w' => w'.cell? ⟨mb, 9, none⟩ = some (.slice co cn cc) ∧ w'.cell? ⟨b, 0, none⟩ = some (.int .i64 yk) ∧ w'.cell? ⟨b, 1, none⟩ = some (.string ⟨yh1.toArray⟩) ∧ w'.cell? ⟨b, 2, none⟩ = some (.string ⟨yh2.toArray⟩) ∧ w'.cell? ⟨b, 3, none⟩ = some (.string ⟨yo.toArray⟩) ∧ w'.cell? ⟨b, 4, none⟩ = some (.string ⟨ya1.toArray⟩) ∧ w'.cell? ⟨b, 5, none⟩ = some (.string ⟨ya2.toArray⟩) ∧ w'.cell? ⟨b, 6, none⟩ = some (.string ⟨yb1.toArray⟩) ∧ w'.cell? ⟨b, 7, none⟩ = some (.string ⟨yb2.toArray⟩) ∧ w'.cell? ⟨b, 8, none⟩ = some (.string ⟨yi.toArray⟩))) (by kernel_rfl) hS0 (fun hHeld => ?_)
     clear hS0
     generalize w3.drew = w4 at *
     refine tk 0 rfl hHeld ?_
     refine tk 1 rfl hHeld ?_
     refine tk 2 rfl hHeld ?_
     (try simp only [nz])
     refine tk 3 rfl hHeld ?_
     refine tk 4 rfl hHeld ?_
     refine tk 5 rfl hHeld ?_
     (try simp only [nz])
     refine tk 6 rfl hHeld ?_
     (try simp only [nz])
     refine on1 7 rfl fun KK hK => ?_
     go_simp
     refine (HSH.out _ (HB.out.K.trans HKX92.out)).mono ?_
     rintro e w5 ⟨rfl, hk⟩
     replace HKX92 := Lib.hid (HKX92.out.trans hk.out)
     clear hk HSH
     go_simp
     refine hK.out _ _ (HMK92.out _ HKX92.out) fun hHeld => ?_
     clear hK KK
     (try simp only [nz])
     refine wpAnyH_done (by kernel_rfl) ?_ _
     refine NoPanic.normal ?_
     clear hHeld HMK92
     have HC := Lib.hid (HB.out.keeps HKX92.out)
     clear HB HKX92
     go_upto_if 45 with fail
     go_cut [34] from 34 to 101 (fun t wx => t = .int .i64 i ∧ ∃ (fv ov : Value), Hid (FinI W0 wx mb (.slice ao an ac) (.slice bo bn bc) (.slice co cn cc) jv (.slice ro rn rc) (.slice lo ln lc) fv ov ((lkF (F.take i))) uv gv (.slice (some ⟨g, off, none⟩) nF cpF) (.slice (some ⟨b, 0, none⟩) 1 1) R0 L0 ((fixF sh (F.take (i + 1)))) ((looF sh (F.take (i + 1)))) ((accU R0 F i)) ((accG (qb1, qb2) F i)) F ([((yh1, yh2), yk, yo, (ya1, ya2), (yb1, yb2), yi)])))
     case first =>
      cases x
      case true =>
       have hmem : (yh1, yh2) ∈ sh := by exact of_decide_eq_true HX.out
       have HFX := Lib.hid (fixF_yes HY.out hmem)
       clear hmem HX
       go_upto_region 12 with fail
       have p0 := one_at HC.out.Y 0 _ rfl
       have p1 := one_at HC.out.Y 1 _ rfl
       have p2 := one_at HC.out.Y 2 _ rfl
       have p3 := one_at HC.out.Y 3 _ rfl
       have p4 := one_at HC.out.Y 4 _ rfl
       have p5 := one_at HC.out.Y 5 _ rfl
       have p6 := one_at HC.out.Y 6 _ rfl
       have p7 := one_at HC.out.Y 7 _ rfl
       have p8 := one_at HC.out.Y 8 _ rfl
       have HAP := Lib.hid ((HC.out.Y.2 b rfl).2)
       have HMK101 : Hid (∀ w' : World, Keeps (fun q => fv.ownBlock = some q) w5 w' → w'.cell? ⟨b, 0, none⟩ = some (.int .i64 yk) ∧ w'.cell? ⟨b, 1, none⟩ = some (.string ⟨yh1.toArray⟩) ∧ w'.cell? ⟨b, 2, none⟩ = some (.string ⟨yh2.toArray⟩) ∧ w'.cell? ⟨b, 3, none⟩ = some (.string ⟨yo.toArray⟩) ∧ w'.cell? ⟨b, 4, none⟩ = some (.string ⟨ya1.toArray⟩) ∧ w'.cell? ⟨b, 5, none⟩ = some (.string ⟨ya2.toArray⟩) ∧ w'.cell? ⟨b, 6, none⟩ = some (.string ⟨yb1.toArray⟩) ∧ w'.cell? ⟨b, 7, none⟩ = some (.string ⟨yb2.toArray⟩) ∧ w'.cell? ⟨b, 8, none⟩ = some (.string ⟨yi.toArray⟩)) := fun w' hk => ⟨(hk.cell (p := ⟨b, 0, none⟩) (World.block_lt_of_cell? _ _ p0) (HAP.out.2.2.1)).trans p0, (hk.cell (p := ⟨b, 1, none⟩) (World.block_lt_of_cell? _ _ p1) (HAP.out.2.2.1)).trans p1, (hk.cell (p := ⟨b, 2, none⟩) (World.block_lt_of_cell? _ _ p2) (HAP.out.2.2.1)).trans p2, (hk.cell (p := ⟨b, 3, none⟩) (World.block_lt_of_cell? _ _ p3) (HAP.out.2.2.1)).trans p3, (hk.cell (p := ⟨b, 4, none⟩) (World.block_lt_of_cell? _ _ p4) (HAP.out.2.2.1)).trans p4, (hk.cell (p := ⟨b, 5, none⟩) (World.block_lt_of_cell? _ _ p5) (HAP.out.2.2.1)).trans p5, (hk.cell (p := ⟨b, 6, none⟩) (World.block_lt_of_cell? _ _ p6) (HAP.out.2.2.1)).trans p6, (hk.cell (p := ⟨b, 7, none⟩) (World.block_lt_of_cell? _ _ p7) (HAP.out.2.2.1)).trans p7, (hk.cell (p := ⟨b, 8, none⟩) (World.block_lt_of_cell? _ _ p8) (HAP.out.2.2.1)).trans p8⟩
       have HKX101 : Hid (KF w5 w5.drew) := (Keeps.refl _ _).drew
       have hS0 := HMK101.out _ (HKX101.out.mono (fun _ _ z => z.elim))
       clear p0 p1 p2 p3 p4 p5 p6 p7 p8
       refine wp_region_noPanic ?_
       refine wp_region_held_drew (S := (fun w' => w'.cell? ⟨b, 0, none⟩ = some (.int .i64 yk) ∧ w'.cell? ⟨b, 1, none⟩ = some (.string ⟨yh1.toArray⟩) ∧ w'.cell? ⟨b, 2, none⟩ = some (.string ⟨yh2.toArray⟩) ∧ w'.cell? ⟨b, 3, none⟩ = some (.string ⟨yo.toArray⟩) ∧ w'.cell? ⟨b, 4, none⟩ = some (.string ⟨ya1.toArray⟩) ∧ w'.cell? ⟨b, 5, none⟩ = some (.string ⟨ya2.toArray⟩) ∧ w'.cell? ⟨b, 6, none⟩ = some (.string ⟨yb1.toArray⟩) ∧ w'.cell? ⟨b, 7, none⟩ = some (.string ⟨yb2.toArray⟩) ∧ w'.cell? ⟨b, 8, none⟩ = some (.string ⟨yi.toArray⟩))) (by kernel_rfl) hS0 (fun hHeld => ?_)
       clear hS0
       generalize w5.drew = w6 at *
       refine tk 0 rfl hHeld ?_
       refine tk 1 rfl hHeld ?_
       refine tk 2 rfl hHeld ?_
       (try simp only [nz])
       refine tk 3 rfl hHeld ?_
       refine tk 4 rfl hHeld ?_
       refine tk 6 rfl hHeld ?_
       (try simp only [nz])
       refine wpAnyH_two (i := 5) (j := 7) (by kernel_rfl) rfl rfl (fun KK hK => ?pA) (fun KK hK => ?pB)
       case pA =>
        have m3 : w6.cell? ⟨mb, 3, none⟩ = some fv := ((HKX101).out.cell (p := ⟨mb, 3, none⟩) (lt_of_heap HC.out.M) (fun x => x)).trans (cf11 HC.out.M).2.2.2.2.2.2.1
        go_simp
        refine hK.out _ _ (HMK101.out _ (HKX101.out.mono (fun _ _ z => z.elim))) fun hHeld => ?_
        clear hK KK
        (try simp only [nz])
        clear m3
        refine on1 7 rfl fun KK hK => ?_
        have hkE : KF w6 (w6.alloc (bM yk yh1 yh2 yo ya1 ya2 yb1 yb2 yi)) := (Keeps.refl _ _).alloc _
        have HSR : Hid (RdK stmE (w6.alloc (bM yk yh1 yh2 yo ya1 ya2 yb1 yb2 yi)) (.slice (some ⟨w6.heap.size, 0, none⟩) 1 1) [((yh1, yh2), yk, yo, (ya1, ya2), (yb1, yb2), yi)]) := (one_srcK (E := stmE) w6 ((yh1, yh2), yk, yo, (ya1, ya2), (yb1, yb2), yi) #[.int .i64 yk, .string ⟨yh1.toArray⟩, .string ⟨yh2.toArray⟩, .string ⟨yo.toArray⟩, .string ⟨ya1.toArray⟩, .string ⟨ya2.toArray⟩, .string ⟨yb1.toArray⟩, .string ⟨yb2.toArray⟩, .string ⟨yi.toArray⟩] rfl).1
        replace HKX101 := Lib.hid (HKX101.out.trans hkE)
        clear hkE
        go_simp
        refine hK.out _ _ (HMK101.out _ (HKX101.out.mono (fun _ _ z => z.elim))) fun hHeld => ?_
        clear hK KK
        (try simp only [nz])
        generalize (w6.alloc (bM yk yh1 yh2 yo ya1 ya2 yb1 yb2 yi)) = w7 at *
        obtain ⟨zb, hzb⟩ : ∃ zb, w6.heap.size = zb := ⟨_, rfl⟩
        (try simp only [hzb])
        (try simp only [hzb] at HSR)
        clear hzb
        refine on1 8 rfl fun KK hK => ?_
        have HD := Lib.hid (HC.out.keeps HKX101.out)
        have hlo := Lib.hid (show mb + 1 ≤ w7.heap.size from lt_of_heap HD.out.M)
        refine step_app_fp (E := stmE) rfl (.tmp 51) (.tmp 53) rfl (mb + 1) fv (fixF sh (F.take i)) (by simp [Act.eval, Act.put] <;> rfl) HD.out.F _ [((yh1, yh2), yk, yo, (ya1, ya2), (yb1, yb2), yi)] (by simp [Act.eval, Act.put] <;> rfl) HSR.out (by simp) (by have := fixF_len sh F i; have := HNF.out; simp only [List.length_cons, List.length_nil]; omega) hlo.out ?_
        intro ao' cap' w8 ho hk hf
        obtain ⟨nn, hnn⟩ : ∃ nn, ((fixF sh (F.take i)) ++ [((yh1, yh2), yk, yo, (ya1, ya2), (yb1, yb2), yi)]).length = nn := ⟨_, rfl⟩
        rw [hnn] at ho hf ⊢
        have HKG110 : Hid (Keeps (fun q => fv.ownBlock = some q) _ _) := (HKX101.out.mono (fun _ _ z => z.elim)).trans (hk)
        have HE := Lib.hid (HD.out.fix ho hk hf)
        have hM8 := (HD.out.put (fun k _ e => own_block HD.out.F k e) hk).2
        clear hlo ho hk hf HSR hnn HKX101
        go_simp
        refine hK.out _ _ (HMK101.out _ HKG110.out) fun hHeld => ?_
        clear hK KK
        refine tk 9 rfl hHeld ?_
        refine tk 10 rfl hHeld ?_
        (try simp only [nz])
        refine tk 11 rfl hHeld ?_
        (try simp only [nz])
        refine on1 12 rfl fun KK hK => ?_
        have m3 := (cf11 hM8).2.2.2.2.2.2.1
        have n3 := (cf11 hM8).2.2.2.2.2.2.2.1
        have hS : ((w8.setCell ⟨mb, 3, none⟩ (.slice ao' nn cap')).cell? ⟨b, 0, none⟩ = some (.int .i64 yk) ∧ (w8.setCell ⟨mb, 3, none⟩ (.slice ao' nn cap')).cell? ⟨b, 1, none⟩ = some (.string ⟨yh1.toArray⟩) ∧ (w8.setCell ⟨mb, 3, none⟩ (.slice ao' nn cap')).cell? ⟨b, 2, none⟩ = some (.string ⟨yh2.toArray⟩) ∧ (w8.setCell ⟨mb, 3, none⟩ (.slice ao' nn cap')).cell? ⟨b, 3, none⟩ = some (.string ⟨yo.toArray⟩) ∧ (w8.setCell ⟨mb, 3, none⟩ (.slice ao' nn cap')).cell? ⟨b, 4, none⟩ = some (.string ⟨ya1.toArray⟩) ∧ (w8.setCell ⟨mb, 3, none⟩ (.slice ao' nn cap')).cell? ⟨b, 5, none⟩ = some (.string ⟨ya2.toArray⟩) ∧ (w8.setCell ⟨mb, 3, none⟩ (.slice ao' nn cap')).cell? ⟨b, 6, none⟩ = some (.string ⟨yb1.toArray⟩) ∧ (w8.setCell ⟨mb, 3, none⟩ (.slice ao' nn cap')).cell? ⟨b, 7, none⟩ = some (.string ⟨yb2.toArray⟩) ∧ (w8.setCell ⟨mb, 3, none⟩ (.slice ao' nn cap')).cell? ⟨b, 8, none⟩ = some (.string ⟨yi.toArray⟩)) := ⟨one_at HE.out.Y 0 _ rfl, one_at HE.out.Y 1 _ rfl, one_at HE.out.Y 2 _ rfl, one_at HE.out.Y 3 _ rfl, one_at HE.out.Y 4 _ rfl, one_at HE.out.Y 5 _ rfl, one_at HE.out.Y 6 _ rfl, one_at HE.out.Y 7 _ rfl, one_at HE.out.Y 8 _ rfl⟩
        go_simp
        refine hK.out _ _ hS (fun hHeld => ?_)
        clear hK KK hS m3 n3 hM8
        (try simp only [nz])
        generalize (w8.setCell ⟨mb, 3, none⟩ (.slice ao' nn cap')) = w9 at *
        refine wpAnyH_done (by kernel_rfl) ?_ _
        refine NoPanic.normal ?_
        clear hHeld HMK101 HKG110 HC HD
        have HN : Hid (FinI W0 w9 mb (.slice ao an ac) (.slice bo bn bc) (.slice co cn cc) jv (.slice ro rn rc) (.slice lo ln lc) ((.slice ao' nn cap')) ov ((lkF (F.take i))) uv gv (.slice (some ⟨g, off, none⟩) nF cpF) (.slice (some ⟨b, 0, none⟩) 1 1) R0 L0 ((fixF sh (F.take (i + 1)))) ((looF sh (F.take (i + 1)))) ((accU R0 F i)) ((accG (qb1, qb2) F i)) F ([((yh1, yh2), yk, yo, (ya1, ya2), (yb1, yb2), yi)])) := by rw [HFX.out.1, HFX.out.2]; exact HE.out
        clear HE HFX
        go_wp2_with fail
        go_meet
        exact ⟨rfl, _, _, HN⟩
       case pB =>
        have hkE : KF w6 (w6.alloc (bM yk yh1 yh2 yo ya1 ya2 yb1 yb2 yi)) := (Keeps.refl _ _).alloc _
        have HSR : Hid (RdK stmE (w6.alloc (bM yk yh1 yh2 yo ya1 ya2 yb1 yb2 yi)) (.slice (some ⟨w6.heap.size, 0, none⟩) 1 1) [((yh1, yh2), yk, yo, (ya1, ya2), (yb1, yb2), yi)]) := (one_srcK (E := stmE) w6 ((yh1, yh2), yk, yo, (ya1, ya2), (yb1, yb2), yi) #[.int .i64 yk, .string ⟨yh1.toArray⟩, .string ⟨yh2.toArray⟩, .string ⟨yo.toArray⟩, .string ⟨ya1.toArray⟩, .string ⟨ya2.toArray⟩, .string ⟨yb1.toArray⟩, .string ⟨yb2.toArray⟩, .string ⟨yi.toArray⟩] rfl).1
        replace HKX101 := Lib.hid (HKX101.out.trans hkE)
        clear hkE
        go_simp
        refine hK.out _ _ (HMK101.out _ (HKX101.out.mono (fun _ _ z => z.elim))) fun hHeld => ?_
        clear hK KK
        (try simp only [nz])
        generalize (w6.alloc (bM yk yh1 yh2 yo ya1 ya2 yb1 yb2 yi)) = w7 at *
        obtain ⟨zb, hzb⟩ : ∃ zb, w6.heap.size = zb := ⟨_, rfl⟩
        (try simp only [hzb])
        (try simp only [hzb] at HSR)
        clear hzb
        refine on1 5 rfl fun KK hK => ?_
        have m3 : w7.cell? ⟨mb, 3, none⟩ = some fv := ((HKX101).out.cell (p := ⟨mb, 3, none⟩) (lt_of_heap HC.out.M) (fun x => x)).trans (cf11 HC.out.M).2.2.2.2.2.2.1
        go_simp
        refine hK.out _ _ (HMK101.out _ (HKX101.out.mono (fun _ _ z => z.elim))) fun hHeld => ?_
        clear hK KK
        (try simp only [nz])
        clear m3
        refine on1 8 rfl fun KK hK => ?_
        have HD := Lib.hid (HC.out.keeps HKX101.out)
        have hlo := Lib.hid (show mb + 1 ≤ w7.heap.size from lt_of_heap HD.out.M)
        refine step_app_fp (E := stmE) rfl (.tmp 51) (.tmp 53) rfl (mb + 1) fv (fixF sh (F.take i)) (by simp [Act.eval, Act.put] <;> rfl) HD.out.F _ [((yh1, yh2), yk, yo, (ya1, ya2), (yb1, yb2), yi)] (by simp [Act.eval, Act.put] <;> rfl) HSR.out (by simp) (by have := fixF_len sh F i; have := HNF.out; simp only [List.length_cons, List.length_nil]; omega) hlo.out ?_
        intro ao' cap' w8 ho hk hf
        obtain ⟨nn, hnn⟩ : ∃ nn, ((fixF sh (F.take i)) ++ [((yh1, yh2), yk, yo, (ya1, ya2), (yb1, yb2), yi)]).length = nn := ⟨_, rfl⟩
        rw [hnn] at ho hf ⊢
        have HKG117 : Hid (Keeps (fun q => fv.ownBlock = some q) _ _) := (HKX101.out.mono (fun _ _ z => z.elim)).trans (hk)
        have HE := Lib.hid (HD.out.fix ho hk hf)
        have hM8 := (HD.out.put (fun k _ e => own_block HD.out.F k e) hk).2
        clear hlo ho hk hf HSR hnn HKX101
        go_simp
        refine hK.out _ _ (HMK101.out _ HKG117.out) fun hHeld => ?_
        clear hK KK
        refine tk 9 rfl hHeld ?_
        refine tk 10 rfl hHeld ?_
        (try simp only [nz])
        refine tk 11 rfl hHeld ?_
        (try simp only [nz])
        refine on1 12 rfl fun KK hK => ?_
        have m3 := (cf11 hM8).2.2.2.2.2.2.1
        have n3 := (cf11 hM8).2.2.2.2.2.2.2.1
        have hS : ((w8.setCell ⟨mb, 3, none⟩ (.slice ao' nn cap')).cell? ⟨b, 0, none⟩ = some (.int .i64 yk) ∧ (w8.setCell ⟨mb, 3, none⟩ (.slice ao' nn cap')).cell? ⟨b, 1, none⟩ = some (.string ⟨yh1.toArray⟩) ∧ (w8.setCell ⟨mb, 3, none⟩ (.slice ao' nn cap')).cell? ⟨b, 2, none⟩ = some (.string ⟨yh2.toArray⟩) ∧ (w8.setCell ⟨mb, 3, none⟩ (.slice ao' nn cap')).cell? ⟨b, 3, none⟩ = some (.string ⟨yo.toArray⟩) ∧ (w8.setCell ⟨mb, 3, none⟩ (.slice ao' nn cap')).cell? ⟨b, 4, none⟩ = some (.string ⟨ya1.toArray⟩) ∧ (w8.setCell ⟨mb, 3, none⟩ (.slice ao' nn cap')).cell? ⟨b, 5, none⟩ = some (.string ⟨ya2.toArray⟩) ∧ (w8.setCell ⟨mb, 3, none⟩ (.slice ao' nn cap')).cell? ⟨b, 6, none⟩ = some (.string ⟨yb1.toArray⟩) ∧ (w8.setCell ⟨mb, 3, none⟩ (.slice ao' nn cap')).cell? ⟨b, 7, none⟩ = some (.string ⟨yb2.toArray⟩) ∧ (w8.setCell ⟨mb, 3, none⟩ (.slice ao' nn cap')).cell? ⟨b, 8, none⟩ = some (.string ⟨yi.toArray⟩)) := ⟨one_at HE.out.Y 0 _ rfl, one_at HE.out.Y 1 _ rfl, one_at HE.out.Y 2 _ rfl, one_at HE.out.Y 3 _ rfl, one_at HE.out.Y 4 _ rfl, one_at HE.out.Y 5 _ rfl, one_at HE.out.Y 6 _ rfl, one_at HE.out.Y 7 _ rfl, one_at HE.out.Y 8 _ rfl⟩
        go_simp
        refine hK.out _ _ hS (fun hHeld => ?_)
        clear hK KK hS m3 n3 hM8
        (try simp only [nz])
        generalize (w8.setCell ⟨mb, 3, none⟩ (.slice ao' nn cap')) = w9 at *
        refine wpAnyH_done (by kernel_rfl) ?_ _
        refine NoPanic.normal ?_
        clear hHeld HMK101 HKG117 HC HD
        have HN : Hid (FinI W0 w9 mb (.slice ao an ac) (.slice bo bn bc) (.slice co cn cc) jv (.slice ro rn rc) (.slice lo ln lc) ((.slice ao' nn cap')) ov ((lkF (F.take i))) uv gv (.slice (some ⟨g, off, none⟩) nF cpF) (.slice (some ⟨b, 0, none⟩) 1 1) R0 L0 ((fixF sh (F.take (i + 1)))) ((looF sh (F.take (i + 1)))) ((accU R0 F i)) ((accG (qb1, qb2) F i)) F ([((yh1, yh2), yk, yo, (ya1, ya2), (yb1, yb2), yi)])) := by rw [HFX.out.1, HFX.out.2]; exact HE.out
        clear HE HFX
        go_wp2_with fail
        go_meet
        exact ⟨rfl, _, _, HN⟩
      case false =>
       have hmem : (yh1, yh2) ∉ sh := by exact of_decide_eq_false HX.out
       have HFX := Lib.hid (fixF_no HY.out hmem)
       clear hmem HX
       go_upto_region 13 with fail
       have p0 := one_at HC.out.Y 0 _ rfl
       have p1 := one_at HC.out.Y 1 _ rfl
       have p2 := one_at HC.out.Y 2 _ rfl
       have p3 := one_at HC.out.Y 3 _ rfl
       have p4 := one_at HC.out.Y 4 _ rfl
       have p5 := one_at HC.out.Y 5 _ rfl
       have p6 := one_at HC.out.Y 6 _ rfl
       have p7 := one_at HC.out.Y 7 _ rfl
       have p8 := one_at HC.out.Y 8 _ rfl
       have HAP := Lib.hid ((HC.out.Y.2 b rfl).2)
       have HMK122 : Hid (∀ w' : World, Keeps (fun q => ov.ownBlock = some q) w5 w' → w'.cell? ⟨b, 0, none⟩ = some (.int .i64 yk) ∧ w'.cell? ⟨b, 1, none⟩ = some (.string ⟨yh1.toArray⟩) ∧ w'.cell? ⟨b, 2, none⟩ = some (.string ⟨yh2.toArray⟩) ∧ w'.cell? ⟨b, 3, none⟩ = some (.string ⟨yo.toArray⟩) ∧ w'.cell? ⟨b, 4, none⟩ = some (.string ⟨ya1.toArray⟩) ∧ w'.cell? ⟨b, 5, none⟩ = some (.string ⟨ya2.toArray⟩) ∧ w'.cell? ⟨b, 6, none⟩ = some (.string ⟨yb1.toArray⟩) ∧ w'.cell? ⟨b, 7, none⟩ = some (.string ⟨yb2.toArray⟩) ∧ w'.cell? ⟨b, 8, none⟩ = some (.string ⟨yi.toArray⟩)) := fun w' hk => ⟨(hk.cell (p := ⟨b, 0, none⟩) (World.block_lt_of_cell? _ _ p0) (HAP.out.2.2.2.1)).trans p0, (hk.cell (p := ⟨b, 1, none⟩) (World.block_lt_of_cell? _ _ p1) (HAP.out.2.2.2.1)).trans p1, (hk.cell (p := ⟨b, 2, none⟩) (World.block_lt_of_cell? _ _ p2) (HAP.out.2.2.2.1)).trans p2, (hk.cell (p := ⟨b, 3, none⟩) (World.block_lt_of_cell? _ _ p3) (HAP.out.2.2.2.1)).trans p3, (hk.cell (p := ⟨b, 4, none⟩) (World.block_lt_of_cell? _ _ p4) (HAP.out.2.2.2.1)).trans p4, (hk.cell (p := ⟨b, 5, none⟩) (World.block_lt_of_cell? _ _ p5) (HAP.out.2.2.2.1)).trans p5, (hk.cell (p := ⟨b, 6, none⟩) (World.block_lt_of_cell? _ _ p6) (HAP.out.2.2.2.1)).trans p6, (hk.cell (p := ⟨b, 7, none⟩) (World.block_lt_of_cell? _ _ p7) (HAP.out.2.2.2.1)).trans p7, (hk.cell (p := ⟨b, 8, none⟩) (World.block_lt_of_cell? _ _ p8) (HAP.out.2.2.2.1)).trans p8⟩
       have HKX122 : Hid (KF w5 w5.drew) := (Keeps.refl _ _).drew
       have hS0 := HMK122.out _ (HKX122.out.mono (fun _ _ z => z.elim))
       clear p0 p1 p2 p3 p4 p5 p6 p7 p8
       refine wp_region_noPanic ?_
       refine wp_region_held_drew (S := (fun w' => w'.cell? ⟨b, 0, none⟩ = some (.int .i64 yk) ∧ w'.cell? ⟨b, 1, none⟩ = some (.string ⟨yh1.toArray⟩) ∧ w'.cell? ⟨b, 2, none⟩ = some (.string ⟨yh2.toArray⟩) ∧ w'.cell? ⟨b, 3, none⟩ = some (.string ⟨yo.toArray⟩) ∧ w'.cell? ⟨b, 4, none⟩ = some (.string ⟨ya1.toArray⟩) ∧ w'.cell? ⟨b, 5, none⟩ = some (.string ⟨ya2.toArray⟩) ∧ w'.cell? ⟨b, 6, none⟩ = some (.string ⟨yb1.toArray⟩) ∧ w'.cell? ⟨b, 7, none⟩ = some (.string ⟨yb2.toArray⟩) ∧ w'.cell? ⟨b, 8, none⟩ = some (.string ⟨yi.toArray⟩))) (by kernel_rfl) hS0 (fun hHeld => ?_)
       clear hS0
       generalize w5.drew = w6 at *
       refine tk 0 rfl hHeld ?_
       refine tk 1 rfl hHeld ?_
       refine tk 2 rfl hHeld ?_
       (try simp only [nz])
       refine tk 3 rfl hHeld ?_
       refine tk 4 rfl hHeld ?_
       refine tk 6 rfl hHeld ?_
       (try simp only [nz])
       refine wpAnyH_two (i := 5) (j := 7) (by kernel_rfl) rfl rfl (fun KK hK => ?pA) (fun KK hK => ?pB)
       case pA =>
        have m3 : w6.cell? ⟨mb, 4, none⟩ = some ov := ((HKX122).out.cell (p := ⟨mb, 4, none⟩) (lt_of_heap HC.out.M) (fun x => x)).trans (cf11 HC.out.M).2.2.2.2.2.2.2.2.1
        go_simp
        refine hK.out _ _ (HMK122.out _ (HKX122.out.mono (fun _ _ z => z.elim))) fun hHeld => ?_
        clear hK KK
        (try simp only [nz])
        clear m3
        refine on1 7 rfl fun KK hK => ?_
        have hkE : KF w6 (w6.alloc (bM yk yh1 yh2 yo ya1 ya2 yb1 yb2 yi)) := (Keeps.refl _ _).alloc _
        have HSR : Hid (RdK stmE (w6.alloc (bM yk yh1 yh2 yo ya1 ya2 yb1 yb2 yi)) (.slice (some ⟨w6.heap.size, 0, none⟩) 1 1) [((yh1, yh2), yk, yo, (ya1, ya2), (yb1, yb2), yi)]) := (one_srcK (E := stmE) w6 ((yh1, yh2), yk, yo, (ya1, ya2), (yb1, yb2), yi) #[.int .i64 yk, .string ⟨yh1.toArray⟩, .string ⟨yh2.toArray⟩, .string ⟨yo.toArray⟩, .string ⟨ya1.toArray⟩, .string ⟨ya2.toArray⟩, .string ⟨yb1.toArray⟩, .string ⟨yb2.toArray⟩, .string ⟨yi.toArray⟩] rfl).1
        replace HKX122 := Lib.hid (HKX122.out.trans hkE)
        clear hkE
        go_simp
        refine hK.out _ _ (HMK122.out _ (HKX122.out.mono (fun _ _ z => z.elim))) fun hHeld => ?_
        clear hK KK
        (try simp only [nz])
        generalize (w6.alloc (bM yk yh1 yh2 yo ya1 ya2 yb1 yb2 yi)) = w7 at *
        obtain ⟨zb, hzb⟩ : ∃ zb, w6.heap.size = zb := ⟨_, rfl⟩
        (try simp only [hzb])
        (try simp only [hzb] at HSR)
        clear hzb
        refine on1 8 rfl fun KK hK => ?_
        have HD := Lib.hid (HC.out.keeps HKX122.out)
        have hlo := Lib.hid (show mb + 1 ≤ w7.heap.size from lt_of_heap HD.out.M)
        refine step_app_fp (E := stmE) rfl (.tmp 63) (.tmp 65) rfl (mb + 1) ov (looF sh (F.take i)) (by simp [Act.eval, Act.put] <;> rfl) HD.out.O _ [((yh1, yh2), yk, yo, (ya1, ya2), (yb1, yb2), yi)] (by simp [Act.eval, Act.put] <;> rfl) HSR.out (by simp) (by have := looF_len sh F i; have := HNF.out; simp only [List.length_cons, List.length_nil]; omega) hlo.out ?_
        intro ao' cap' w8 ho hk hf
        obtain ⟨nn, hnn⟩ : ∃ nn, ((looF sh (F.take i)) ++ [((yh1, yh2), yk, yo, (ya1, ya2), (yb1, yb2), yi)]).length = nn := ⟨_, rfl⟩
        rw [hnn] at ho hf ⊢
        have HKG131 : Hid (Keeps (fun q => ov.ownBlock = some q) _ _) := (HKX122.out.mono (fun _ _ z => z.elim)).trans (hk)
        have HE := Lib.hid (HD.out.loose ho hk hf)
        have hM8 := (HD.out.put (fun k _ e => own_block HD.out.O k e) hk).2
        clear hlo ho hk hf HSR hnn HKX122
        go_simp
        refine hK.out _ _ (HMK122.out _ HKG131.out) fun hHeld => ?_
        clear hK KK
        refine tk 9 rfl hHeld ?_
        refine tk 10 rfl hHeld ?_
        (try simp only [nz])
        refine tk 11 rfl hHeld ?_
        (try simp only [nz])
        refine on1 12 rfl fun KK hK => ?_
        have m3 := (cf11 hM8).2.2.2.2.2.2.2.2.1
        have n3 := (cf11 hM8).2.2.2.2.2.2.2.2.2.1
        have hS : ((w8.setCell ⟨mb, 4, none⟩ (.slice ao' nn cap')).cell? ⟨b, 0, none⟩ = some (.int .i64 yk) ∧ (w8.setCell ⟨mb, 4, none⟩ (.slice ao' nn cap')).cell? ⟨b, 1, none⟩ = some (.string ⟨yh1.toArray⟩) ∧ (w8.setCell ⟨mb, 4, none⟩ (.slice ao' nn cap')).cell? ⟨b, 2, none⟩ = some (.string ⟨yh2.toArray⟩) ∧ (w8.setCell ⟨mb, 4, none⟩ (.slice ao' nn cap')).cell? ⟨b, 3, none⟩ = some (.string ⟨yo.toArray⟩) ∧ (w8.setCell ⟨mb, 4, none⟩ (.slice ao' nn cap')).cell? ⟨b, 4, none⟩ = some (.string ⟨ya1.toArray⟩) ∧ (w8.setCell ⟨mb, 4, none⟩ (.slice ao' nn cap')).cell? ⟨b, 5, none⟩ = some (.string ⟨ya2.toArray⟩) ∧ (w8.setCell ⟨mb, 4, none⟩ (.slice ao' nn cap')).cell? ⟨b, 6, none⟩ = some (.string ⟨yb1.toArray⟩) ∧ (w8.setCell ⟨mb, 4, none⟩ (.slice ao' nn cap')).cell? ⟨b, 7, none⟩ = some (.string ⟨yb2.toArray⟩) ∧ (w8.setCell ⟨mb, 4, none⟩ (.slice ao' nn cap')).cell? ⟨b, 8, none⟩ = some (.string ⟨yi.toArray⟩)) := ⟨one_at HE.out.Y 0 _ rfl, one_at HE.out.Y 1 _ rfl, one_at HE.out.Y 2 _ rfl, one_at HE.out.Y 3 _ rfl, one_at HE.out.Y 4 _ rfl, one_at HE.out.Y 5 _ rfl, one_at HE.out.Y 6 _ rfl, one_at HE.out.Y 7 _ rfl, one_at HE.out.Y 8 _ rfl⟩
        go_simp
        refine hK.out _ _ hS (fun hHeld => ?_)
        clear hK KK hS m3 n3 hM8
        (try simp only [nz])
        generalize (w8.setCell ⟨mb, 4, none⟩ (.slice ao' nn cap')) = w9 at *
        refine wpAnyH_done (by kernel_rfl) ?_ _
        refine NoPanic.normal ?_
        clear hHeld HMK122 HKG131 HC HD
        have HN : Hid (FinI W0 w9 mb (.slice ao an ac) (.slice bo bn bc) (.slice co cn cc) jv (.slice ro rn rc) (.slice lo ln lc) fv ((.slice ao' nn cap')) ((lkF (F.take i))) uv gv (.slice (some ⟨g, off, none⟩) nF cpF) (.slice (some ⟨b, 0, none⟩) 1 1) R0 L0 ((fixF sh (F.take (i + 1)))) ((looF sh (F.take (i + 1)))) ((accU R0 F i)) ((accG (qb1, qb2) F i)) F ([((yh1, yh2), yk, yo, (ya1, ya2), (yb1, yb2), yi)])) := by rw [HFX.out.1, HFX.out.2]; exact HE.out
        clear HE HFX
        go_wp2_with fail
        go_meet
        exact ⟨rfl, _, _, HN⟩
       case pB =>
        have hkE : KF w6 (w6.alloc (bM yk yh1 yh2 yo ya1 ya2 yb1 yb2 yi)) := (Keeps.refl _ _).alloc _
        have HSR : Hid (RdK stmE (w6.alloc (bM yk yh1 yh2 yo ya1 ya2 yb1 yb2 yi)) (.slice (some ⟨w6.heap.size, 0, none⟩) 1 1) [((yh1, yh2), yk, yo, (ya1, ya2), (yb1, yb2), yi)]) := (one_srcK (E := stmE) w6 ((yh1, yh2), yk, yo, (ya1, ya2), (yb1, yb2), yi) #[.int .i64 yk, .string ⟨yh1.toArray⟩, .string ⟨yh2.toArray⟩, .string ⟨yo.toArray⟩, .string ⟨ya1.toArray⟩, .string ⟨ya2.toArray⟩, .string ⟨yb1.toArray⟩, .string ⟨yb2.toArray⟩, .string ⟨yi.toArray⟩] rfl).1
        replace HKX122 := Lib.hid (HKX122.out.trans hkE)
        clear hkE
        go_simp
        refine hK.out _ _ (HMK122.out _ (HKX122.out.mono (fun _ _ z => z.elim))) fun hHeld => ?_
        clear hK KK
        (try simp only [nz])
        generalize (w6.alloc (bM yk yh1 yh2 yo ya1 ya2 yb1 yb2 yi)) = w7 at *
        obtain ⟨zb, hzb⟩ : ∃ zb, w6.heap.size = zb := ⟨_, rfl⟩
        (try simp only [hzb])
        (try simp only [hzb] at HSR)
        clear hzb
        refine on1 5 rfl fun KK hK => ?_
        have m3 : w7.cell? ⟨mb, 4, none⟩ = some ov := ((HKX122).out.cell (p := ⟨mb, 4, none⟩) (lt_of_heap HC.out.M) (fun x => x)).trans (cf11 HC.out.M).2.2.2.2.2.2.2.2.1
        go_simp
        refine hK.out _ _ (HMK122.out _ (HKX122.out.mono (fun _ _ z => z.elim))) fun hHeld => ?_
        clear hK KK
        (try simp only [nz])
        clear m3
        refine on1 8 rfl fun KK hK => ?_
        have HD := Lib.hid (HC.out.keeps HKX122.out)
        have hlo := Lib.hid (show mb + 1 ≤ w7.heap.size from lt_of_heap HD.out.M)
        refine step_app_fp (E := stmE) rfl (.tmp 63) (.tmp 65) rfl (mb + 1) ov (looF sh (F.take i)) (by simp [Act.eval, Act.put] <;> rfl) HD.out.O _ [((yh1, yh2), yk, yo, (ya1, ya2), (yb1, yb2), yi)] (by simp [Act.eval, Act.put] <;> rfl) HSR.out (by simp) (by have := looF_len sh F i; have := HNF.out; simp only [List.length_cons, List.length_nil]; omega) hlo.out ?_
        intro ao' cap' w8 ho hk hf
        obtain ⟨nn, hnn⟩ : ∃ nn, ((looF sh (F.take i)) ++ [((yh1, yh2), yk, yo, (ya1, ya2), (yb1, yb2), yi)]).length = nn := ⟨_, rfl⟩
        rw [hnn] at ho hf ⊢
        have HKG138 : Hid (Keeps (fun q => ov.ownBlock = some q) _ _) := (HKX122.out.mono (fun _ _ z => z.elim)).trans (hk)
        have HE := Lib.hid (HD.out.loose ho hk hf)
        have hM8 := (HD.out.put (fun k _ e => own_block HD.out.O k e) hk).2
        clear hlo ho hk hf HSR hnn HKX122
        go_simp
        refine hK.out _ _ (HMK122.out _ HKG138.out) fun hHeld => ?_
        clear hK KK
        refine tk 9 rfl hHeld ?_
        refine tk 10 rfl hHeld ?_
        (try simp only [nz])
        refine tk 11 rfl hHeld ?_
        (try simp only [nz])
        refine on1 12 rfl fun KK hK => ?_
        have m3 := (cf11 hM8).2.2.2.2.2.2.2.2.1
        have n3 := (cf11 hM8).2.2.2.2.2.2.2.2.2.1
        have hS : ((w8.setCell ⟨mb, 4, none⟩ (.slice ao' nn cap')).cell? ⟨b, 0, none⟩ = some (.int .i64 yk) ∧ (w8.setCell ⟨mb, 4, none⟩ (.slice ao' nn cap')).cell? ⟨b, 1, none⟩ = some (.string ⟨yh1.toArray⟩) ∧ (w8.setCell ⟨mb, 4, none⟩ (.slice ao' nn cap')).cell? ⟨b, 2, none⟩ = some (.string ⟨yh2.toArray⟩) ∧ (w8.setCell ⟨mb, 4, none⟩ (.slice ao' nn cap')).cell? ⟨b, 3, none⟩ = some (.string ⟨yo.toArray⟩) ∧ (w8.setCell ⟨mb, 4, none⟩ (.slice ao' nn cap')).cell? ⟨b, 4, none⟩ = some (.string ⟨ya1.toArray⟩) ∧ (w8.setCell ⟨mb, 4, none⟩ (.slice ao' nn cap')).cell? ⟨b, 5, none⟩ = some (.string ⟨ya2.toArray⟩) ∧ (w8.setCell ⟨mb, 4, none⟩ (.slice ao' nn cap')).cell? ⟨b, 6, none⟩ = some (.string ⟨yb1.toArray⟩) ∧ (w8.setCell ⟨mb, 4, none⟩ (.slice ao' nn cap')).cell? ⟨b, 7, none⟩ = some (.string ⟨yb2.toArray⟩) ∧ (w8.setCell ⟨mb, 4, none⟩ (.slice ao' nn cap')).cell? ⟨b, 8, none⟩ = some (.string ⟨yi.toArray⟩)) := ⟨one_at HE.out.Y 0 _ rfl, one_at HE.out.Y 1 _ rfl, one_at HE.out.Y 2 _ rfl, one_at HE.out.Y 3 _ rfl, one_at HE.out.Y 4 _ rfl, one_at HE.out.Y 5 _ rfl, one_at HE.out.Y 6 _ rfl, one_at HE.out.Y 7 _ rfl, one_at HE.out.Y 8 _ rfl⟩
        go_simp
        refine hK.out _ _ hS (fun hHeld => ?_)
        clear hK KK hS m3 n3 hM8
        (try simp only [nz])
        generalize (w8.setCell ⟨mb, 4, none⟩ (.slice ao' nn cap')) = w9 at *
        refine wpAnyH_done (by kernel_rfl) ?_ _
        refine NoPanic.normal ?_
        clear hHeld HMK122 HKG138 HC HD
        have HN : Hid (FinI W0 w9 mb (.slice ao an ac) (.slice bo bn bc) (.slice co cn cc) jv (.slice ro rn rc) (.slice lo ln lc) fv ((.slice ao' nn cap')) ((lkF (F.take i))) uv gv (.slice (some ⟨g, off, none⟩) nF cpF) (.slice (some ⟨b, 0, none⟩) 1 1) R0 L0 ((fixF sh (F.take (i + 1)))) ((looF sh (F.take (i + 1)))) ((accU R0 F i)) ((accG (qb1, qb2) F i)) F ([((yh1, yh2), yk, yo, (ya1, ya2), (yb1, yb2), yi)])) := by rw [HFX.out.1, HFX.out.2]; exact HE.out
        clear HE HFX
        go_wp2_with fail
        go_meet
        exact ⟨rfl, _, _, HN⟩
     case rest =>
      obtain ⟨rfl, fv, ov, HD⟩ := hcut
      clear HC HX
      have p0 := one_at HD.out.Y 0 _ rfl
      have p1 := one_at HD.out.Y 1 _ rfl
      have p2 := one_at HD.out.Y 2 _ rfl
      have p3 := one_at HD.out.Y 3 _ rfl
      have p4 := one_at HD.out.Y 4 _ rfl
      have p5 := one_at HD.out.Y 5 _ rfl
      have p6 := one_at HD.out.Y 6 _ rfl
      have p7 := one_at HD.out.Y 7 _ rfl
      have p8 := one_at HD.out.Y 8 _ rfl
      have HLK := Lib.hid (lkF_next HY.out)
      obtain ⟨lkb, hlkb⟩ : ∃ x, lkF (F.take i) = x := ⟨_, rfl⟩
      rw [hlkb] at HD HLK
      clear hlkb
      by_cases hk1 : yk = 1
      case pos =>
       subst hk1
       have HK2 := Lib.hid (HD.out.keeps ((Keeps.refl (fun _ => False) wc).alloc (.cells #[.string ⟨yo.toArray⟩] 9)))
       have HSZ := Lib.hid (show mb + 1 ≤ (wc.alloc (.cells #[.string ⟨yo.toArray⟩] 9)).heap.size from lt_of_heap HK2.out.M)
       go_wp2_with (at_builtin; refine app_fp (E := strE) rfl _ _ rfl (mb + 1) uv (accU R0 F i) rfl HK2.out.U _ [yo] rfl (srcK_str (one_srcS wc yo)).1 (by simp) (by have := accU_len R0 F i; have := HNF.out; have := HLR.out; simp only [List.length_cons, List.length_nil]; omega) HSZ.out ?_)
       intro ao' cap' w6 ho hk hf
       have HN := (HK2.out.who ho hk (fun k e => (hf k e).imp id (fun z => by rw [size_alloc]; exact z))).one (rdX_nil stmE _ _)
       rw [← accU_yes HY.out rfl, ← accG_no (B := (qb1, qb2)) HY.out (show ¬((1 : Int) = 3 ∨ (1 : Int) = 4) by decide), show lkb = lkF (F.take (i + 1)) from by rw [HLK.out]; simp] at HN
       replace HN := Lib.hid HN
       clear HK2 HSZ HLK HD ho hk hf p0 p1 p2 p3 p4 p5 p6 p7 p8
       go_wp2_with fail
       go_roundg (nF - (i + 1))
       case measure => omega
       case rel => exact ⟨i + 1, _, _, _, _, by omega, rfl, by go_num, rfl, rfl, HN⟩
      case neg =>
       by_cases hk3 : yk = 3
       case pos =>
        subst hk3
        have m6 := (cf11 HD.out.M).2.2.2.2.2.2.2.2.2.2.2.2.1
        have n6 := (cf11 HD.out.M).2.2.2.2.2.2.2.2.2.2.2.2.2.1
        cases lkb
        case true =>
         have HL := Lib.hid (HD.out.link true)
         go_upto_region 20 with fail
         clear HD m6 n6 p0 p1 p2 p3 p4 p5 p6 p7 p8
         generalize (wc.setCell ⟨mb, 6, none⟩ (.bool true)) = w5b at *
         have p0 := one_at HL.out.Y 0 _ rfl
         have p1 := one_at HL.out.Y 1 _ rfl
         have p2 := one_at HL.out.Y 2 _ rfl
         have p3 := one_at HL.out.Y 3 _ rfl
         have p4 := one_at HL.out.Y 4 _ rfl
         have p5 := one_at HL.out.Y 5 _ rfl
         have p6 := one_at HL.out.Y 6 _ rfl
         have p7 := one_at HL.out.Y 7 _ rfl
         have p8 := one_at HL.out.Y 8 _ rfl
         have HK2 := Lib.hid (HL.out.keeps ((Keeps.refl (fun _ => False) w5b).alloc (bR ya1 ya2)))
         have HSZ := Lib.hid (show mb + 1 ≤ (w5b.alloc (bR ya1 ya2)).heap.size from lt_of_heap HK2.out.M)
         go_wp2_with (at_builtin; refine app_fp (E := rolE) rfl _ _ rfl (mb + 1) gv (accG (qb1, qb2) F i) rfl HK2.out.G _ [(ya1, ya2)] rfl (one_srcK (E := rolE) w5b (ya1, ya2) #[.string ⟨ya1.toArray⟩, .string ⟨ya2.toArray⟩] rfl).1 (by simp) (by have := accG_len (qb1, qb2) F i; have := HNF.out; simp only [List.length_cons, List.length_nil]; omega) HSZ.out ?_)
         intro ao' cap' w6 ho hk hf
         have HN := (HK2.out.sig ho hk (fun k e => (hf k e).imp id (fun z => by rw [size_alloc]; exact z))).one (rdX_nil stmE _ _)
         rw [← accG_yes HY.out (show (3 : Int) = 3 ∨ (3 : Int) = 4 by decide), ← accU_no (R := R0) HY.out (show (3 : Int) ≠ 1 by decide)] at HN
         have HLB : Hid (true = lkF (F.take (i + 1))) := by show _ = _; rw [HLK.out]; rfl
         replace HN := Lib.hid HN
         rw [HLB.out] at HN
         clear HK2 HSZ HLK HLB HL ho hk hf p0 p1 p2 p3 p4 p5 p6 p7 p8
         go_wp2_with fail
         go_roundg (nF - (i + 1))
         case measure => omega
         case rel => exact ⟨i + 1, _, _, _, _, by omega, rfl, by go_num, rfl, rfl, HN⟩
        case false =>
         have HL := Lib.hid (HD.out.link true)
         go_upto_region 20 with fail
         clear HD m6 n6 p0 p1 p2 p3 p4 p5 p6 p7 p8
         generalize (wc.setCell ⟨mb, 6, none⟩ (.bool true)) = w5b at *
         have p0 := one_at HL.out.Y 0 _ rfl
         have p1 := one_at HL.out.Y 1 _ rfl
         have p2 := one_at HL.out.Y 2 _ rfl
         have p3 := one_at HL.out.Y 3 _ rfl
         have p4 := one_at HL.out.Y 4 _ rfl
         have p5 := one_at HL.out.Y 5 _ rfl
         have p6 := one_at HL.out.Y 6 _ rfl
         have p7 := one_at HL.out.Y 7 _ rfl
         have p8 := one_at HL.out.Y 8 _ rfl
         have HK2 := Lib.hid (HL.out.keeps ((Keeps.refl (fun _ => False) w5b).alloc (bR ya1 ya2)))
         have HSZ := Lib.hid (show mb + 1 ≤ (w5b.alloc (bR ya1 ya2)).heap.size from lt_of_heap HK2.out.M)
         go_wp2_with (at_builtin; refine app_fp (E := rolE) rfl _ _ rfl (mb + 1) gv (accG (qb1, qb2) F i) rfl HK2.out.G _ [(ya1, ya2)] rfl (one_srcK (E := rolE) w5b (ya1, ya2) #[.string ⟨ya1.toArray⟩, .string ⟨ya2.toArray⟩] rfl).1 (by simp) (by have := accG_len (qb1, qb2) F i; have := HNF.out; simp only [List.length_cons, List.length_nil]; omega) HSZ.out ?_)
         intro ao' cap' w6 ho hk hf
         have HN := (HK2.out.sig ho hk (fun k e => (hf k e).imp id (fun z => by rw [size_alloc]; exact z))).one (rdX_nil stmE _ _)
         rw [← accG_yes HY.out (show (3 : Int) = 3 ∨ (3 : Int) = 4 by decide), ← accU_no (R := R0) HY.out (show (3 : Int) ≠ 1 by decide)] at HN
         have HLB : Hid (true = lkF (F.take (i + 1))) := by show _ = _; rw [HLK.out]; rfl
         replace HN := Lib.hid HN
         rw [HLB.out] at HN
         clear HK2 HSZ HLK HLB HL ho hk hf p0 p1 p2 p3 p4 p5 p6 p7 p8
         go_wp2_with fail
         go_roundg (nF - (i + 1))
         case measure => omega
         case rel => exact ⟨i + 1, _, _, _, _, by omega, rfl, by go_num, rfl, rfl, HN⟩
       case neg =>
        by_cases hk4 : yk = 4
        case pos =>
         subst hk4
         have m6 := (cf11 HD.out.M).2.2.2.2.2.2.2.2.2.2.2.2.1
         have n6 := (cf11 HD.out.M).2.2.2.2.2.2.2.2.2.2.2.2.2.1
         cases lkb
         case true =>
          have HL := Lib.hid (HD.out.link true)
          go_upto_region 20 with fail
          clear HD m6 n6 p0 p1 p2 p3 p4 p5 p6 p7 p8
          generalize (wc.setCell ⟨mb, 6, none⟩ (.bool true)) = w5b at *
          have p0 := one_at HL.out.Y 0 _ rfl
          have p1 := one_at HL.out.Y 1 _ rfl
          have p2 := one_at HL.out.Y 2 _ rfl
          have p3 := one_at HL.out.Y 3 _ rfl
          have p4 := one_at HL.out.Y 4 _ rfl
          have p5 := one_at HL.out.Y 5 _ rfl
          have p6 := one_at HL.out.Y 6 _ rfl
          have p7 := one_at HL.out.Y 7 _ rfl
          have p8 := one_at HL.out.Y 8 _ rfl
          have HK2 := Lib.hid (HL.out.keeps ((Keeps.refl (fun _ => False) w5b).alloc (bR ya1 ya2)))
          have HSZ := Lib.hid (show mb + 1 ≤ (w5b.alloc (bR ya1 ya2)).heap.size from lt_of_heap HK2.out.M)
          go_wp2_with (at_builtin; refine app_fp (E := rolE) rfl _ _ rfl (mb + 1) gv (accG (qb1, qb2) F i) rfl HK2.out.G _ [(ya1, ya2)] rfl (one_srcK (E := rolE) w5b (ya1, ya2) #[.string ⟨ya1.toArray⟩, .string ⟨ya2.toArray⟩] rfl).1 (by simp) (by have := accG_len (qb1, qb2) F i; have := HNF.out; simp only [List.length_cons, List.length_nil]; omega) HSZ.out ?_)
          intro ao' cap' w6 ho hk hf
          have HN := (HK2.out.sig ho hk (fun k e => (hf k e).imp id (fun z => by rw [size_alloc]; exact z))).one (rdX_nil stmE _ _)
          rw [← accG_yes HY.out (show (4 : Int) = 3 ∨ (4 : Int) = 4 by decide), ← accU_no (R := R0) HY.out (show (4 : Int) ≠ 1 by decide)] at HN
          have HLB : Hid (true = lkF (F.take (i + 1))) := by show _ = _; rw [HLK.out]; rfl
          replace HN := Lib.hid HN
          rw [HLB.out] at HN
          clear HK2 HSZ HLK HLB HL ho hk hf p0 p1 p2 p3 p4 p5 p6 p7 p8
          go_wp2_with fail
          go_roundg (nF - (i + 1))
          case measure => omega
          case rel => exact ⟨i + 1, _, _, _, _, by omega, rfl, by go_num, rfl, rfl, HN⟩
         case false =>
          have HL := Lib.hid (HD.out.link false)
          go_upto_region 20 with fail
          clear HD m6 n6 p0 p1 p2 p3 p4 p5 p6 p7 p8
          generalize (wc.setCell ⟨mb, 6, none⟩ (.bool false)) = w5b at *
          have p0 := one_at HL.out.Y 0 _ rfl
          have p1 := one_at HL.out.Y 1 _ rfl
          have p2 := one_at HL.out.Y 2 _ rfl
          have p3 := one_at HL.out.Y 3 _ rfl
          have p4 := one_at HL.out.Y 4 _ rfl
          have p5 := one_at HL.out.Y 5 _ rfl
          have p6 := one_at HL.out.Y 6 _ rfl
          have p7 := one_at HL.out.Y 7 _ rfl
          have p8 := one_at HL.out.Y 8 _ rfl
          have HK2 := Lib.hid (HL.out.keeps ((Keeps.refl (fun _ => False) w5b).alloc (bR ya1 ya2)))
          have HSZ := Lib.hid (show mb + 1 ≤ (w5b.alloc (bR ya1 ya2)).heap.size from lt_of_heap HK2.out.M)
          go_wp2_with (at_builtin; refine app_fp (E := rolE) rfl _ _ rfl (mb + 1) gv (accG (qb1, qb2) F i) rfl HK2.out.G _ [(ya1, ya2)] rfl (one_srcK (E := rolE) w5b (ya1, ya2) #[.string ⟨ya1.toArray⟩, .string ⟨ya2.toArray⟩] rfl).1 (by simp) (by have := accG_len (qb1, qb2) F i; have := HNF.out; simp only [List.length_cons, List.length_nil]; omega) HSZ.out ?_)
          intro ao' cap' w6 ho hk hf
          have HN := (HK2.out.sig ho hk (fun k e => (hf k e).imp id (fun z => by rw [size_alloc]; exact z))).one (rdX_nil stmE _ _)
          rw [← accG_yes HY.out (show (4 : Int) = 3 ∨ (4 : Int) = 4 by decide), ← accU_no (R := R0) HY.out (show (4 : Int) ≠ 1 by decide)] at HN
          have HLB : Hid (false = lkF (F.take (i + 1))) := by show _ = _; rw [HLK.out]; rfl
          replace HN := Lib.hid HN
          rw [HLB.out] at HN
          clear HK2 HSZ HLK HLB HL ho hk hf p0 p1 p2 p3 p4 p5 p6 p7 p8
          go_wp2_with fail
          go_roundg (nF - (i + 1))
          case measure => omega
          case rel => exact ⟨i + 1, _, _, _, _, by omega, rfl, by go_num, rfl, rfl, HN⟩
        case neg =>
         have hb1 : (yk == 1) = false := beq_eq_false_iff_ne.2 hk1
         have hb3 : (yk == 3) = false := beq_eq_false_iff_ne.2 hk3
         have hb4 : (yk == 4) = false := beq_eq_false_iff_ne.2 hk4
         have HN : Hid (FinI W0 wc mb (.slice ao an ac) (.slice bo bn bc) (.slice co cn cc) jv (.slice ro rn rc) (.slice lo ln lc) fv ov ((lkF (F.take (i + 1)))) uv gv (.slice (some ⟨g, off, none⟩) nF cpF) (.slice none 0 0) R0 L0 ((fixF sh (F.take (i + 1)))) ((looF sh (F.take (i + 1)))) ((accU R0 F (i + 1))) ((accG (qb1, qb2) F (i + 1))) F ([])) := by
          have q := HD.out.one (rdX_nil stmE _ _)
          rw [HLK.out, accU_no HY.out hk1, accG_no HY.out (fun z => z.elim hk3 hk4), show decide (yk = 3) = false from decide_eq_false hk3, Bool.or_false]
          exact q
         clear HLK HD
         go_wp2_with fail
         go_roundg (nF - (i + 1))
         case measure => omega
         case rel => exact ⟨i + 1, _, _, _, _, by omega, rfl, by go_num, rfl, rfl, HN⟩
    ·obtain rfl : nF = i := by omega
     have hiI : ¬ (nF : Int) < (nF : Int) := by omega
     have HI3 : Hid (FinI W0 wr mb (.slice ao an ac) (.slice bo bn bc) (.slice co cn cc) jv (.slice ro rn rc) (.slice lo ln lc) fv ov ((lkF F)) uv gv (.slice none 0 0) (.slice none 0 0) R0 L0 ((fixF sh F)) ((looF sh F)) ((accU R0 F nF)) ((accG (qb1, qb2) F nF)) ([]) ([])) := by
      have q := HI.out.over (rdX_nil stmE _ _)
      rw [List.take_of_length_le (by rw [HNF.out]; exact Nat.le_refl _)] at q
      exact q
     have HTK : Hid (F.take nF = F) := List.take_of_length_le (by rw [HNF.out]; exact Nat.le_refl _)
     clear HI
     obtain ⟨U0, hU0⟩ : ∃ U0, accU R0 F nF = U0 := ⟨_, rfl⟩
     obtain ⟨G0, hG0⟩ : ∃ G0, accG (qb1, qb2) F nF = G0 := ⟨_, rfl⟩
     have hUl : U0.length ≤ 9200 := by have := accU_len R0 F nF; have := HNF.out; have := HLR.out; rw [← hU0]; omega
     have hGl : G0.length ≤ 200 := by have := accG_len (qb1, qb2) F nF; have := HNF.out; rw [← hG0]; omega
     rw [hU0, hG0] at HI3
     have HU0 : Hid (U0 = R0.map (·.1) ++ whoF F) := by
      show _ = _
      rw [← hU0]
      unfold accU
      rw [HTK.out]
     have HG0 : Hid (G0 = (qb1, qb2) :: sigF F) := by
      show _ = _
      rw [← hG0]
      unfold accG
      rw [HTK.out]
     clear hU0 hG0
     obtain ⟨m0, n0, m1, n1, m2, n2, m3, n3, m4, n4, m5, n5, m6, n6, m7, n7, m8, n8, m9, n9, m10, n10⟩ := cf11 HI3.out.M
     clear n0 n1 n2 n3 n4 n5 n6 n7 n8 n9 n10 m0 m1 m2 m3 m4 m5 m6 m7 m10
     go_upto_region 22 with fail
     have HMK143 : Hid (∀ w' : World, KF wr w' → w'.cell? ⟨mb, 8, none⟩ = some (.slice bo bn bc) ∧ w'.cell? ⟨mb, 9, none⟩ = some (.slice co cn cc)) := fun w' hk => ⟨kc hk m8, kc hk m9⟩
     have HKX143 : Hid (KF wr wr.drew) := (Keeps.refl _ _).drew
     have hS0 := HMK143.out _ HKX143.out
     clear m8 m9
     refine wp_region_noPanic ?_
     refine wp_region_held_drew (S := (fun w' => w'.cell? ⟨mb, 8, none⟩ = some (.slice bo bn bc) ∧ w'.cell? ⟨mb, 9, none⟩ = some (.slice co cn cc))) (by kernel_rfl) hS0 (fun hHeld => ?_)
     clear hS0
     generalize wr.drew = w3 at *
     refine tk 0 rfl hHeld ?_
     refine tk 5 rfl hHeld ?_
     refine tk 13 rfl hHeld ?_
     (try simp only [nz])
     refine tk 1 rfl hHeld ?_
     refine tk 2 rfl hHeld ?_
     refine tk 3 rfl hHeld ?_
     (try simp only [nz])
     refine tk 4 rfl hHeld ?_
     refine tk 6 rfl hHeld ?_
     refine tk 7 rfl hHeld ?_
     (try simp only [nz])
     refine tk 8 rfl hHeld ?_
     refine tk 9 rfl hHeld ?_
     (try simp only [nz])
     refine on1 10 rfl fun KK hK => ?_
     have hkE : KF w3 (w3.alloc (.cells #[.slice bo bn bc, .slice co cn cc] 23)) := (Keeps.refl _ _).alloc _
     have hka := (MapKept.heap_alloc w3 (.cells #[.slice bo bn bc, .slice co cn cc] 23)).1
     replace HKX143 := Lib.hid (HKX143.out.trans hkE)
     have HCC := Lib.hid (rconcat_spec (W := (w3.alloc (.cells #[.slice bo bn bc, .slice co cn cc] 23))) (ga := w3.heap.size) (lt_of_heap hka) (by rw [cell_of_heap hka]; rfl) (by rw [cell_of_heap hka]; rfl) (HG.out.keeps (HI3.out.K.trans HKX143.out)) (hs1.out.keeps (HI3.out.K.trans HKX143.out)) (by omega) (by omega))
     clear hkE hka
     go_simp
     refine hK.out _ _ (HMK143.out _ HKX143.out) fun hHeld => ?_
     clear hK KK
     (try simp only [nz])
     generalize (w3.alloc (.cells #[.slice bo bn bc, .slice co cn cc] 23)) = w4 at *
     obtain ⟨zb, hzb⟩ : ∃ zb, w3.heap.size = zb := ⟨_, rfl⟩
     (try simp only [hzb])
     (try simp only [hzb] at HCC)
     clear hzb
     refine on1 11 rfl fun KK hK => ?_
     go_simp
     refine HCC.out.mono ?_
     rintro e w5 ⟨cv0, rfl, hk⟩
     have HI4 := Lib.hid (HI3.out.keeps (HKX143.out.trans hk.out.2))
     have HCR : Hid (RdX rolE w5 cv0 (gr ++ sh) (fun k => uv.ownBlock ≠ some k)) := by
      refine ⟨hk.out.1.src, fun k e => ⟨own_lt hk.out.1 k e, fun e2 => ?_⟩⟩
      have h8 := own_lt HI3.out.U k e2
      have h9 := own_block hk.out.1 k e
      have := HKX143.out.size
      omega
     replace HKX143 := Lib.hid (HKX143.out.trans hk.out.2)
     obtain ⟨eo, ec, hcv, hcle, _⟩ := id HCR.out.1.1
     subst hcv
     obtain ⟨nC, hnC⟩ : ∃ n, (gr ++ sh).length = n := ⟨_, rfl⟩
     have HNC := Lib.hid hnC
     have hcl : nC ≤ 200 := by rw [← hnC, List.length_append]; omega
     rw [hnC] at HCR hcle ⊢
     clear hk HCC hnC HI3
     go_simp
     refine hK.out _ _ (HMK143.out _ HKX143.out) fun hHeld => ?_
     clear hK KK
     (try simp only [nz])
     refine on1 12 rfl fun KK hK => ?_
     go_simp
     refine hK.out _ _ (HMK143.out _ HKX143.out) fun hHeld => ?_
     clear hK KK
     (try simp only [nz])
     refine wpAnyH_done (by kernel_rfl) ?_ _
     refine NoPanic.normal ?_
     clear hHeld HMK143
     have HI5 := Lib.hid HI4.out
     clear HKX143 HI4
     obtain ⟨C, hC⟩ : ∃ C, gr ++ sh = C := ⟨_, rfl⟩
     rw [hC] at HCR HNC
     have HCG := Lib.hid hC
     clear hC
     have HI6 : Hid ((FinI W0 w5 mb (.slice ao an ac) (.slice bo bn bc) (.slice co cn cc) jv (.slice ro rn rc) (.slice lo ln lc) fv ov ((lkF F)) uv gv (.slice none 0 0) (.slice none 0 0) R0 L0 ((fixF sh F)) ((looF sh F)) ((accC U0 L0 C 0)) G0 ([]) ([])) ∧ RdX rolE w5 (.slice eo nC ec) C (fun k => uv.ownBlock ≠ some k)) := ⟨by rw [show accC U0 L0 C 0 = U0 from List.append_nil _]; exact HI5.out, HCR.out⟩
     clear HI5 HCR
     go_wp2_with fail
     go_loopg [4, 115] nC (fun g u t wx => ∃ (i : Nat) (uv : Value), i ≤ nC ∧ g = nC - i ∧ t = .int .i64 i ∧ uv = u ∧ Hid ((FinI W0 wx mb (.slice ao an ac) (.slice bo bn bc) (.slice co cn cc) jv (.slice ro rn rc) (.slice lo ln lc) fv ov ((lkF F)) uv gv (.slice none 0 0) (.slice none 0 0) R0 L0 ((fixF sh F)) ((looF sh F)) ((accC U0 L0 C i)) G0 ([]) ([])) ∧ RdX rolE wx (.slice eo nC ec) C (fun k => (uv : Value).ownBlock ≠ some k)))
     case atStart => exact ⟨0, _, Nat.zero_le _, rfl, rfl, rfl, HI6.out⟩
     case round =>
      clear HI6
      obtain ⟨i, uv, hi, rfl, rfl, rfl, HI⟩ := hrel
      by_cases hlt : i < nC
      ·skip
       have hiI : (i : Int) < (nC : Int) := by omega
       have hwi : IntKind.i64.wrap ((i : Int) + 1) = (i : Int) + 1 := IntWalk.i64_in _ (by omega)
       have hicap : i < ec := by omega
       obtain ⟨y, hy⟩ : ∃ y, C[i]? = some y := ⟨_, List.getElem?_eq_getElem (by rw [HNC.out]; exact hlt)⟩
       obtain ⟨aoz, cpz, ez, hez, hrz⟩ := id HI.out.2.1.1
       obtain ⟨g, off, hao, hg, hcc⟩ := hrz (by rw [HNC.out]; omega)
       simp only [Value.slice.injEq] at ez
       obtain ⟨rfl, hzz, rfl⟩ := ez
       subst hao
       have hc := hcc i y hy
       have HY := Lib.hid hy
       obtain ⟨yr1, yr2⟩ := y
       clear hcc hrz hez hzz hy
       have c0 : wr.cell? ⟨g, off + i * 2, none⟩ = some (.string ⟨yr1.toArray⟩) := hc 0 _ rfl
       have c1 : wr.cell? ⟨g, off + i * 2 + 1, none⟩ = some (.string ⟨yr2.toArray⟩) := hc 1 _ rfl
       have hal := (MapKept.heap_alloc wr (bR yr1 yr2)).1
       have hka : KF wr (wr.alloc (bR yr1 yr2)) := (Keeps.refl _ _).alloc _
       have HB := Lib.hid hal
       have HJ := Lib.hid (show _ ∧ _ from ⟨HI.out.1.keeps hka, HI.out.2.keeps hka (fun _ _ _ x => x)⟩)
       have HCO := Lib.hid (fun (w : World) (hk : KF (wr.alloc (bR yr1 yr2)) w) => scontains_spec ((ownK_str.1 HJ.out.1.L).reads.keeps hk) (by omega) yr2)
       obtain ⟨b, hb⟩ : ∃ b, wr.heap.size = b := ⟨_, rfl⟩
       rw [hb] at HB
       go_upto_region 25 with fail
       (try simp only [hb])
       clear hal hka hb HI hc c0 c1 hg
       generalize wr.alloc (bR yr1 yr2) = w2 at *
       obtain ⟨p0, f0, p1, f1⟩ := cf2 HB.out
       obtain ⟨x, hx⟩ : ∃ x, decide (yr2 ∈ L0) = x := ⟨_, rfl⟩
       rw [hx] at HCO
       have HX := Lib.hid hx
       have m1 := (cf11 HJ.out.1.M).2.2.1
       clear hx f0 f1
       have HMK158 : Hid (∀ w' : World, KF w2 w' → w'.cell? ⟨mb, 1, none⟩ = some (.slice lo ln lc) ∧ w'.cell? ⟨b, 0, none⟩ = some (.string ⟨yr1.toArray⟩) ∧ w'.cell? ⟨b, 1, none⟩ = some (.string ⟨yr2.toArray⟩)) := fun w' hk => ⟨kc hk m1, kc hk p0, kc hk p1⟩
       have HKX158 : Hid (KF w2 w2.drew) := (Keeps.refl _ _).drew
       have hS0 := HMK158.out _ HKX158.out
       clear m1 p0 p1
       refine wp_region_noPanic ?_
       refine wp_region_held_drew (S := (fun w' => w'.cell? ⟨mb, 1, none⟩ = some (.slice lo ln lc) ∧ w'.cell? ⟨b, 0, none⟩ = some (.string ⟨yr1.toArray⟩) ∧ w'.cell? ⟨b, 1, none⟩ = some (.string ⟨yr2.toArray⟩))) (by kernel_rfl) hS0 (fun hHeld => ?_)
       clear hS0
       generalize w2.drew = w3q at *
       refine tk 0 rfl hHeld ?_
       refine tk 1 rfl hHeld ?_
       refine tk 2 rfl hHeld ?_
       (try simp only [nz])
       refine tk 3 rfl hHeld ?_
       refine tk 4 rfl hHeld ?_
       refine tk 5 rfl hHeld ?_
       (try simp only [nz])
       refine tk 6 rfl hHeld ?_
       (try simp only [nz])
       refine on1 7 rfl fun KK hK => ?_
       go_simp
       refine (HCO.out _ HKX158.out).mono ?_
       rintro e w4q ⟨rfl, hk⟩
       replace HKX158 := Lib.hid (HKX158.out.trans (show KF w3q w4q by rw [show w3q = w4q from hk.out]; exact Keeps.refl _ _))
       clear hk HCO
       go_simp
       refine hK.out _ _ (HMK158.out _ HKX158.out) fun hHeld => ?_
       clear hK KK
       (try simp only [nz])
       refine wpAnyH_done (by kernel_rfl) ?_ _
       refine NoPanic.normal ?_
       clear hHeld HMK158
       have HP := Lib.hid (show _ ∧ _ from ⟨HJ.out.1.keeps HKX158.out, HJ.out.2.keeps HKX158.out (fun _ _ _ x => x)⟩)
       have HBX := Lib.hid ((HKX158.out.block b (lt_of_heap HB.out) (fun x => x)).trans HB.out)
       clear HJ HB HKX158
       cases x
       case true =>
        obtain ⟨p0, f0, p1, f1⟩ := cf2 HBX.out
        have HK2 := Lib.hid (show _ ∧ _ from ⟨HP.out.1.keeps ((Keeps.refl (fun _ => False) w4q).alloc (.cells #[.string ⟨yr1.toArray⟩] 9)), HP.out.2.keeps ((Keeps.refl (fun _ => False) w4q).alloc (.cells #[.string ⟨yr1.toArray⟩] 9)) (fun _ _ _ x => x)⟩)
        have HSZ := Lib.hid (show mb + 1 ≤ (w4q.alloc (.cells #[.string ⟨yr1.toArray⟩] 9)).heap.size from lt_of_heap HK2.out.1.M)
        go_wp2_with (at_builtin; refine app_fp (E := strE) rfl _ _ rfl (mb + 1) uv (accC U0 L0 C i) rfl HK2.out.1.U _ [yr1] rfl (srcK_str (one_srcS w4q yr1)).1 (by simp) (by have := accC_len U0 L0 C i; have := HNC.out; simp only [List.length_cons, List.length_nil]; omega) HSZ.out ?_)
        intro ao' cap' w6 ho hk hf
        have HN1 := HK2.out.1.who ho hk (fun k e => (hf k e).imp id (fun z => by rw [size_alloc]; exact z))
        have HN2 := HK2.out.2.into (P' := fun k => (.slice ao' ((accC U0 L0 C i).length + 1) cap' : Value).ownBlock ≠ some k) hk (fun q _ hp e => hp e) (fun q hq hp e => (hf q e).elim (fun z => hp z) (fun z => by rw [size_alloc] at hq; omega))
        rw [← accC_yes HY.out (of_decide_eq_true HX.out)] at HN1
        have HN := Lib.hid (show _ ∧ _ from ⟨HN1, HN2⟩)
        clear HN1 HN2 HK2 HSZ HBX HP ho hk hf p0 f0 p1 f1 HX
        go_wp2_with fail
        go_roundg (nC - (i + 1))
        case measure => omega
        case rel => exact ⟨i + 1, _, by omega, rfl, by go_num, rfl, HN⟩
       case false =>
        have HN := Lib.hid (show _ ∧ _ from ⟨(accC_no (U := U0) HY.out (of_decide_eq_false HX.out)) ▸ HP.out.1, HP.out.2⟩)
        clear HP HBX HX
        go_wp2_with fail
        go_roundg (nC - (i + 1))
        case measure => omega
        case rel => exact ⟨i + 1, _, by omega, rfl, by go_num, rfl, HN⟩
      ·obtain rfl : nC = i := by omega
       have hiI : ¬ (nC : Int) < (nC : Int) := by omega
       have HCT : Hid (C.take nC = C) := List.take_of_length_le (by rw [HNC.out]; exact Nat.le_refl _)
       have HI7 := Lib.hid HI.out.1
       clear HI
       have HNW := Lib.hid (names_new (ownK_str.1 HI7.out.U).reads (by have := accC_len U0 L0 C nC; have := HNC.out; omega))
       go_wp2_with fail
       refine HNW.out.mono ?_
       rintro e w2 ⟨p7, rfl, hk⟩
       have HI8 := Lib.hid (HI7.out.keeps hk.out.1)
       have HNA := Lib.hid (names_all hk.out.2 (by have := accC_len U0 L0 C nC; have := tab_len (accC U0 L0 C nC); have := HNC.out; omega))
       clear HNW hk HI7
       go_wp2_with fail
       refine HNA.out.mono ?_
       rintro e w3 ⟨pv, rfl, hk⟩
       have HI9 := Lib.hid (HI8.out.keeps hk.out.1)
       have HPV : Hid (OwnK strE (mb + 1) w3 pv (tabL (accC U0 L0 C nC))) := (ownK_str.2 hk.out.2).base (lt_of_heap HI8.out.M)
       obtain ⟨po, pc, hpv, _⟩ := id HPV.out.reads
       obtain ⟨pn, hpn⟩ : ∃ n, (tabL (accC U0 L0 C nC)).length = n := ⟨_, rfl⟩
       rw [hpn] at hpv
       subst hpv
       clear hpn
       have HSO := Lib.hid (rsort_own HI9.out.G.src (by omega))
       clear HNA hk HI8
       go_wp2_with fail
       refine HSO.out.mono ?_
       rintro e w4 ⟨gv2, rfl, hk⟩
       have HIA := Lib.hid (HI9.out.keeps hk.out.1)
       have HPW := Lib.hid (HPV.out.keeps hk.out.1 (fun _ _ x => x))
       have HGW : Hid (OwnK rolE (mb + 1) w4 gv2 (sortO rolLt G0)) := hk.out.2.base (lt_of_heap HI9.out.M)
       obtain ⟨g2o, g2c, hgv, _⟩ := id HGW.out.reads
       obtain ⟨g2n, hg2⟩ : ∃ n, (sortO rolLt G0).length = n := ⟨_, rfl⟩
       rw [hg2] at hgv
       subst hgv
       clear hg2
       clear HSO hk HI9 HPV
       have hM := HIA.out.M
       have hk2 : Keeps (fun q => q = mb) w4 ((w4.setCell ⟨mb, 2, none⟩ (.slice po pn pc)).setCell ⟨mb, 5, none⟩ (.slice g2o g2n g2c)) := Keeps.setCell (S := fun q => q = mb) (Keeps.setCell (S := fun q => q = mb) (Keeps.refl _ _) (p := ⟨mb, 2, none⟩) (fun _ => rfl) _) (p := ⟨mb, 5, none⟩) (fun _ => rfl) _
       have hM2 := heap_set (heap_set hM 2 (.slice po pn pc)) 5 (.slice g2o g2n g2c)
       have HO : Hid (FinO W0 ((w4.setCell ⟨mb, 2, none⟩ (.slice po pn pc)).setCell ⟨mb, 5, none⟩ (.slice g2o g2n g2c)) mb (.slice ao an ac) (.slice bo bn bc) (.slice co cn cc) jv (.slice ro rn rc) (.slice lo ln lc) (.slice po pn pc) fv ov (.slice g2o g2n g2c) (lkF F) R0 L0 (tabL (accC U0 L0 C nC)) (fixF sh F) (looF sh F) (sortO rolLt G0)) :=
        ⟨HIA.out.K.trans_new hk2 (fun q hq e => by have e : q = mb := e; have := HIA.out.hb; omega), hM2, HIA.out.R.keeps hk2 (fun q hq e => by have e : q = mb := e; omega), HIA.out.L.keeps hk2 (fun q hq e => by have e : q = mb := e; omega), HPW.out.keeps hk2 (fun q hq e => by have e : q = mb := e; omega), HIA.out.F.keeps hk2 (fun q hq e => by have e : q = mb := e; omega), HIA.out.O.keeps hk2 (fun q hq e => by have e : q = mb := e; omega), HGW.out.keeps hk2 (fun q hq e => by have e : q = mb := e; omega)⟩
       have hm2 := (cf11 (heap_set hM 2 (.slice po pn pc)))
       obtain ⟨m0, n0, m1, n1, m2, n2, m3, n3, m4, n4, m5, n5, m6, n6, m7, n7, m8, n8, m9, n9, m10, n10⟩ := cf11 hM
       clear m0 n0 m1 n1 m3 n3 m4 n4 m6 n6 m7 n7 m8 n8 m9 n9 m10 n10
       have m5b := hm2.2.2.2.2.2.2.2.2.2.2.1
       have n5b := hm2.2.2.2.2.2.2.2.2.2.2.2.1
       have HFF : Hid (accC U0 L0 C nC = R0.map (·.1) ++ whoF F ++ catF L0 C) := by
        show _ = _
        unfold accC
        rw [HCT.out, HU0.out]
       rw [HFF.out, HG0.out, ← HCG.out] at HO
       clear hM hM2 hk2 HIA HPW HGW hm2 HFF HCT
       go_wp2_with fail
       go_end0
       exact ⟨rfl, _, _, _, _, HO⟩
end Go.Proofs.YtckikkkdabpjkaaGreat
