/-
 Who follows by a statement, of what was found: the document's.
-/
import Derived.Test.YtckikkkdabpjkaaGreatKitSq
import Derived.Test.YtckikkkdabpjkaaGreatMW
import Derived.Test.YtckikkkdabpjkaaGreatRelevFin
set_option linter.unusedVariables false
set_option linter.unusedSimpArgs false
set_option linter.unnecessarySimpa false
namespace Go.Proofs.YtckikkkdabpjkaaGreat
open Go.ChangeShapes Go.WideShapes Go.ChangeAt Go.RowKit Go.Deep
theorem flat_pre {α β : Type} (f : α → List β) (l : List α) {i : Nat} {x : α} (hx : l[i]? = some x) : (l.take (i + 1)).flatMap f = (l.take i).flatMap f ++ f x := by
 rw [List.take_add_one, hx, List.flatMap_append]
 simp
theorem flat_le {α β : Type} (f : α → List β) (l : List α) (i : Nat) : ((l.take i).flatMap f).length ≤ (l.flatMap f).length := by
 conv => rhs; rw [← List.take_append_drop i l, List.flatMap_append, List.length_append]
 omega
def accF (l : List Pr) (y : Stm) (i : Nat) : List Str := (l.take i).flatMap (folX l y)
theorem accF_next {l : List Pr} {y : Stm} {i : Nat} {x : Pr} (hx : l[i]? = some x) : accF l y (i + 1) = accF l y i ++ folX l y x := flat_pre _ l hx
theorem accF_le (l : List Pr) (y : Stm) (i : Nat) : (accF l y i).length ≤ (l.flatMap (folX l y)).length := flat_le _ l i
theorem accF_all {l : List Pr} {y : Stm} {n : Nat} (h : l.length = n) : accF l y n = l.flatMap (folX l y) := by
 unfold accF
 rw [List.take_of_length_le (by omega)]
/-- What of the pairs lies in a role. -/
def inR (l : List Pr) (r : Rol) : List Str := (l.filter (fun z => decide (z.1 = r))).map (·.2)
theorem inR_yes {l : List Pr} {i : Nat} {x : Pr} (hx : l[i]? = some x) {r : Rol} (h : x.1 = r) : inR (l.take (i + 1)) r = inR (l.take i) r ++ [x.2] := by
 unfold inR
 rw [List.take_add_one, hx, List.filter_append, List.map_append]
 simp [h]
theorem inR_no {l : List Pr} {i : Nat} {x : Pr} (hx : l[i]? = some x) {r : Rol} (h : x.1 ≠ r) : inR (l.take (i + 1)) r = inR (l.take i) r := by
 unfold inR
 rw [List.take_add_one, hx, List.filter_append, List.map_append]
 simp [h]
theorem inR_le (l : List Pr) (i : Nat) (r : Rol) : (inR (l.take i) r).length ≤ (inR l r).length := by
 unfold inR
 conv => rhs; rw [← List.take_append_drop i l, List.filter_append, List.map_append, List.length_append]
 omega
def accI (A : List Str) (l : List Pr) (j : Nat) (r : Rol) : List Str := A ++ inR (l.take j) r
theorem accI_zero (A : List Str) (l : List Pr) (r : Rol) : accI A l 0 r = A := List.append_nil _
theorem accI_yes {A : List Str} {l : List Pr} {i : Nat} {x : Pr} (hx : l[i]? = some x) {r : Rol} (h : x.1 = r) : accI A l (i + 1) r = accI A l i r ++ [x.2] := by
 unfold accI
 rw [inR_yes hx h, List.append_assoc]
theorem accI_no {A : List Str} {l : List Pr} {i : Nat} {x : Pr} (hx : l[i]? = some x) {r : Rol} (h : x.1 ≠ r) : accI A l (i + 1) r = accI A l i r := by
 unfold accI
 rw [inR_no hx h]
theorem accI_le (A : List Str) (l : List Pr) (j : Nat) (r : Rol) : (accI A l j r).length ≤ A.length + (inR l r).length := by
 unfold accI
 have := inR_le l j r
 rw [List.length_append]
 omega
theorem accI_all {A : List Str} {l : List Pr} {n : Nat} (h : l.length = n) (r : Rol) : accI A l n r = A ++ inR l r := by
 unfold accI
 rw [List.take_of_length_le (by omega)]
theorem rol_neq2 (x1 x2 y1 y2 : Str) (w : World) : (binOp .neq 28 (.agg #[.string ⟨x1.toArray⟩, .string ⟨x2.toArray⟩]) (.agg #[.string ⟨y1.toArray⟩, .string ⟨y2.toArray⟩])).run Tryz.prog w = .ok (.bool (!decide (((x1, x2) : Rol) = (y1, y2)))) w := rol_neq (x1, x2) (y1, y2) w
theorem rol_eql2 (x1 x2 y1 y2 : Str) (w : World) : (binOp .eql 28 (.agg #[.string ⟨x1.toArray⟩, .string ⟨x2.toArray⟩]) (.agg #[.string ⟨y1.toArray⟩, .string ⟨y2.toArray⟩])).run Tryz.prog w = .ok (.bool (decide (((x1, x2) : Rol) = (y1, y2)))) w := rol_eql (x1, x2) (y1, y2) w
set_option maxRecDepth 100000
set_option maxHeartbeats 6400000
theorem pfollows_spec {W : World} {v : Value} {l : List Pr} (h : RdK prE W v l) (hl : l.length ≤ 9000) (y : Stm) (hk1 : 1 ≤ y.2.1) (hk4 : y.2.1 ≤ 4) (hf : (folL l y).length ≤ 90000) :
 Calls Tryz.prog 132 #[v, stmV y] W fun e W' => ∃ v', e = .returned v' ∧ Hid (KF W W' ∧ ReadsS W' v' (folL l y) ∧ ∀ k, v'.ownBlock = some k → W.heap.size ≤ k ∧ k < W'.heap.size) := by
 have HV := Lib.hid h
 have HIN := Lib.hid (fun (w : World) (hk : KF W w) (r : Rol) (s : Str) => pin_spec (h.keeps hk) (by omega) r s)
 obtain ⟨ao, cap, rfl, hle, hr⟩ := h
 obtain ⟨n, hn⟩ : ∃ n, l.length = n := ⟨_, rfl⟩
 rw [hn] at hle hl HV HIN ⊢
 have HN := Lib.hid hn
 have HFL := Lib.hid hf
 clear hr hn hf
 obtain ⟨⟨yh1, yh2⟩, yk, yo, ⟨ya1, ya2⟩, ⟨yb1, yb2⟩, yi⟩ := y
 simp only at hk1 hk4
 unfold stmV
 simp only
 obtain ⟨WA, hWA⟩ : ∃ WA, W.alloc (bM yk yh1 yh2 yo ya1 ya2 yb1 yb2 yi) = WA := ⟨_, rfl⟩
 have hal := (MapKept.heap_alloc W (bM yk yh1 yh2 yo ya1 ya2 yb1 yb2 yi)).1
 have HK0 : Hid (KF W WA) := by rw [← hWA]; exact (Keeps.refl _ _).alloc _
 rw [hWA] at hal
 obtain ⟨sb, hsb⟩ : ∃ q, W.heap.size = q := ⟨_, rfl⟩
 rw [hsb] at hal
 have HA := Lib.hid hal
 clear hal
 obtain ⟨p0, f0, p1, f1, p2, f2, p3, f3, p4, f4, p5, f5, p6, f6, p7, f7, p8, f8⟩ := cf9 HA.out
 clear f0 f1 f2 f3 f4 f5 f6 f7 f8
 go_enter Tryz.func132, Tryz.ntmps132
 go_upto_region 1 with fail
 (try simp only [hWA, hsb])
 clear hWA hsb
 by_cases e1 : yk = 1
 case pos =>
  subst e1
  have HO : Hid (ReadsS (WA.alloc (.cells #[.string ⟨yo.toArray⟩] 9)) (.slice (some ⟨WA.heap.size, 0, none⟩) 1 1) (folL l ((yh1, yh2), 1, yo, (ya1, ya2), (yb1, yb2), yi))) := by
   have q := (one_src WA yo).1
   have e : folL l ((yh1, yh2), 1, yo, (ya1, ya2), (yb1, yb2), yi) = [yo] := if_pos rfl
   rw [e]
   exact q
  have HE : Hid (KF W (WA.alloc (.cells #[.string ⟨yo.toArray⟩] 9))) := HK0.out.trans ((Keeps.refl _ _).alloc _)
  go_wp2_with fail
  go_ret
  exact ⟨.slice (some ⟨WA.heap.size, 0, none⟩) 1 1, rfl, HE.out, HO.out, fun k hk => by
   simp only [Value.ownBlock, Option.map_some, Option.some.injEq] at hk
   have h1 := HK0.out.size
   rw [← hk]
   exact ⟨h1, lt_of_heap (MapKept.heap_alloc WA (.cells #[.string ⟨yo.toArray⟩] 9)).1⟩⟩
 case neg =>
  have b1 : (yk == 1) = false := beq_eq_false_iff_ne.2 e1
  have HFE : Hid (folL l ((yh1, yh2), yk, yo, (ya1, ya2), (yb1, yb2), yi) = l.flatMap (folX l ((yh1, yh2), yk, yo, (ya1, ya2), (yb1, yb2), yi))) := if_neg e1
  rw [HFE.out] at HFL
  obtain ⟨bs, hbs⟩ : ∃ q, WA.heap.size = q := ⟨_, rfl⟩
  have HBS := Lib.hid hbs
  clear hbs
  have HI0 : Hid (KF WA WA ∧ OwnK strE bs WA (.slice none 0 0) (accF l ((yh1, yh2), yk, yo, (ya1, ya2), (yb1, yb2), yi) 0)) := ⟨Keeps.refl _ _, ownK_nil _ _ _⟩
  go_wp2_with fail
  clear p0 p1 p2 p3 p4 p5 p6 p7 p8
  go_loopg [5, 18] n (fun g o t wx => ∃ (i : Nat) (ov : Value), i ≤ n ∧ g = n - i ∧ t = .int .i64 i ∧ ov = o ∧ Hid (KF WA wx ∧ OwnK strE bs wx ov (accF l ((yh1, yh2), yk, yo, (ya1, ya2), (yb1, yb2), yi) i)))
  case atStart => exact ⟨0, _, Nat.zero_le _, rfl, rfl, rfl, HI0⟩
  case round =>
   clear HI0
   obtain ⟨i, ov, hi, rfl, rfl, rfl, HI⟩ := hrel
   by_cases hltx : i < n
   ·skip
    have hiI : (i : Int) < (n : Int) := by omega
    have hwi : IntKind.i64.wrap ((i : Int) + 1) = (i : Int) + 1 := IntWalk.i64_in _ (by omega)
    have hicap : i < cap := by omega
    obtain ⟨x, hx⟩ : ∃ y, l[i]? = some y := ⟨_, List.getElem?_eq_getElem (by rw [HN.out]; exact hltx)⟩
    obtain ⟨aoz, cpz, ez, hez, hrz⟩ := id (HV.out.keeps (HK0.out.trans HI.out.1))
    obtain ⟨g, off, hao, hg, hcc⟩ := hrz (by rw [HN.out]; omega)
    simp only [Value.slice.injEq] at ez
    obtain ⟨rfl, hzz, rfl⟩ := ez
    subst hao
    have hc := hcc i x hx
    have HFP := Lib.hid (accF_next (y := ((yh1, yh2), yk, yo, (ya1, ya2), (yb1, yb2), yi)) hx)
    have HXL := Lib.hid (accF_le l ((yh1, yh2), yk, yo, (ya1, ya2), (yb1, yb2), yi) (i + 1))
    obtain ⟨⟨x1, x2⟩, x3⟩ := x
    clear hcc hrz hez hzz hx
    have c0 : wr.cell? ⟨g, off + i * 3, none⟩ = some (.string ⟨x1.toArray⟩) := hc 0 _ rfl
    have c1 : wr.cell? ⟨g, off + i * 3 + 1, none⟩ = some (.string ⟨x2.toArray⟩) := hc 1 _ rfl
    have c2 : wr.cell? ⟨g, off + i * 3 + 2, none⟩ = some (.string ⟨x3.toArray⟩) := hc 2 _ rfl
    have hka : KF wr (wr.alloc (.cells #[.string ⟨x1.toArray⟩, .string ⟨x2.toArray⟩, .string ⟨x3.toArray⟩] 136)) := (Keeps.refl _ _).alloc _
    have hal := (MapKept.heap_alloc wr (.cells #[.string ⟨x1.toArray⟩, .string ⟨x2.toArray⟩, .string ⟨x3.toArray⟩] 136)).1
    have HJ : Hid (KF WA (wr.alloc (.cells #[.string ⟨x1.toArray⟩, .string ⟨x2.toArray⟩, .string ⟨x3.toArray⟩] 136)) ∧ OwnK strE bs (wr.alloc (.cells #[.string ⟨x1.toArray⟩, .string ⟨x2.toArray⟩, .string ⟨x3.toArray⟩] 136)) ov (accF l ((yh1, yh2), yk, yo, (ya1, ya2), (yb1, yb2), yi) i)) := ⟨HI.out.1.trans hka, HI.out.2.keeps hka (fun _ _ z => z)⟩
    obtain ⟨xb, hxb⟩ : ∃ b, wr.heap.size = b := ⟨_, rfl⟩
    rw [hxb] at hal
    have HB := Lib.hid hal
    have HXO : Hid (∀ k, ov.ownBlock = some k → k < xb) := fun k hk => by have := own_lt HI.out.2 k hk; omega
    go_upto_region 7 with fail
    (try simp only [hxb])
    clear hka hal hxb hc hg HI c0 c1 c2
    generalize wr.alloc (.cells #[.string ⟨x1.toArray⟩, .string ⟨x2.toArray⟩, .string ⟨x3.toArray⟩] 136) = w2 at *
    have HA2 := Lib.hid ((HJ.out.1.block _ (lt_of_heap HA.out) (fun x => x)).trans HA.out)
    obtain ⟨q0, f0, q1, f1, q2, f2⟩ := cf3 HB.out
    obtain ⟨p0, g0, p1, g1, p2, g2, p3, g3, p4, g4, p5, g5, p6, g6, p7, g7, p8, g8⟩ := cf9 HA2.out
    clear f0 f1 f2 g0 g1 g2 g3 g4 g5 g6 g7 g8
    have qn := rol_neq2 x1 x2 ya1 ya2
    by_cases ea : ((x1, x2) : Rol) = (ya1, ya2)
    case neg =>
     rw [decide_eq_false ea] at qn
     have HN2 : Hid (KF WA w2 ∧ OwnK strE bs w2 ov (accF l ((yh1, yh2), yk, yo, (ya1, ya2), (yb1, yb2), yi) (i + 1))) := by
      have e : folX l ((yh1, yh2), yk, yo, (ya1, ya2), (yb1, yb2), yi) ((x1, x2), x3) = [] := if_neg ea
      rw [HFP.out, e, List.append_nil]
      exact HJ.out
     clear HJ HFP HB HA2 HXO
     go_wp2_with fail
     go_roundg (n - (i + 1))
     case measure => omega
     case rel => exact ⟨i + 1, _, by omega, rfl, by go_num, rfl, HN2⟩
    case pos =>
     rw [decide_eq_true ea] at qn
     have hfx : folX l ((yh1, yh2), yk, yo, (ya1, ya2), (yb1, yb2), yi) ((x1, x2), x3) = (if yk = 2 ∨ (yk = 4 ∧ ((yb1, yb2), x3) ∈ l) then [x3] else []) ++ (if yk = 3 then inR l (x3, yi) else []) := if_pos ea
     have HFX := Lib.hid hfx
     clear hfx
     by_cases e2 : yk = 2
     case pos =>
      subst e2
      rw [if_pos (.inl rfl), if_neg (show ¬ ((2 : Int) = 3) by decide), List.append_nil] at HFX
      have HK2 : Hid (KF WA (w2.alloc (.cells #[.string ⟨x3.toArray⟩] 9)) ∧ OwnK strE bs (w2.alloc (.cells #[.string ⟨x3.toArray⟩] 9)) ov (accF l ((yh1, yh2), 2, yo, (ya1, ya2), (yb1, yb2), yi) i)) := ⟨HJ.out.1.trans ((Keeps.refl _ _).alloc _), HJ.out.2.keeps ((Keeps.refl (fun _ => False) w2).alloc _) (fun _ _ z => z)⟩
      have HSZ := Lib.hid (show bs ≤ (w2.alloc (.cells #[.string ⟨x3.toArray⟩] 9)).heap.size from by have := HK2.out.1.size; have := HBS.out; omega)
      go_wp2_with (at_builtin; refine app_fp (E := strE) rfl _ _ rfl bs ov (accF l ((yh1, yh2), 2, yo, (ya1, ya2), (yb1, yb2), yi) i) rfl HK2.out.2 _ [x3] rfl (srcK_str (one_src w2 x3)).1 (by simp) (by have := HXL.out; have := HFL.out; have := accF_le l ((yh1, yh2), 2, yo, (ya1, ya2), (yb1, yb2), yi) i; simp only [List.length_cons, List.length_nil]; omega) HSZ.out ?_)
      intro ao' cap' w6 ho hk hf
      have HN2 : Hid (KF WA w6 ∧ OwnK strE bs w6 _ (accF l ((yh1, yh2), 2, yo, (ya1, ya2), (yb1, yb2), yi) (i + 1))) := ⟨HK2.out.1.trans_new hk (fun q hq e => by have := own_block HK2.out.2 q e; have := HBS.out; omega), by rw [HFP.out, HFX.out]; exact ho⟩
      clear HK2 HSZ HJ HFP HB HA2 HXO HFX ho hk hf p0 p1 p2 p3 p4 p5 p6 p7 p8 q0 q1 q2
      have p0 := (cf9 ((HN2.out.1.block _ (lt_of_heap HA.out) (fun x => x)).trans HA.out)).1
      go_wp2_with fail
      go_roundg (n - (i + 1))
      case measure => omega
      case rel => exact ⟨i + 1, _, by omega, rfl, by go_num, rfl, HN2⟩
     case neg =>
      by_cases e4 : yk = 4
      case pos =>
       subst e4
       rw [if_neg (show ¬ ((4 : Int) = 3) by decide), List.append_nil] at HFX
       obtain ⟨bi, hbi⟩ : ∃ x, decide (((yb1, yb2), x3) ∈ l) = x := ⟨_, rfl⟩
       have HC := Lib.hid (HIN.out w2 (HK0.out.trans HJ.out.1) (yb1, yb2) x3)
       unfold rolV2 at HC
       simp only at HC
       rw [hbi] at HC
       have HBI := Lib.hid hbi
       clear hbi
       go_wp2_with fail
       refine HC.out.mono ?_
       rintro e w3 ⟨rfl, hk⟩
       have HJ3 : Hid (KF WA w3 ∧ OwnK strE bs w3 ov (accF l ((yh1, yh2), 4, yo, (ya1, ya2), (yb1, yb2), yi) i)) := ⟨HJ.out.1.trans hk.out, HJ.out.2.keeps hk.out (fun _ _ z => z)⟩
       have HB3 := Lib.hid ((hk.out.block _ (lt_of_heap HB.out) (fun x => x)).trans HB.out)
       have HA3 := Lib.hid ((hk.out.block _ (lt_of_heap HA2.out) (fun x => x)).trans HA2.out)
       clear HC hk HJ HB HA2 p0 p1 p2 p3 p4 p5 p6 p7 p8 q0 q1 q2
       obtain ⟨q0, f0, q1, f1, q2, f2⟩ := cf3 HB3.out
       obtain ⟨p0, g0, p1, g1, p2, g2, p3, g3, p4, g4, p5, g5, p6, g6, p7, g7, p8, g8⟩ := cf9 HA3.out
       clear f0 f1 f2 g0 g1 g2 g3 g4 g5 g6 g7 g8
       have HJ := Lib.hid HJ3.out
       have HB := Lib.hid HB3.out
       have HA2 := Lib.hid HA3.out
       clear HJ3 HB3 HA3
       cases bi
       case false =>
        rw [if_neg (fun e => e.elim (fun z => by cases z) (fun z => of_decide_eq_false HBI.out z.2))] at HFX
        have HN2 : Hid (KF WA w3 ∧ OwnK strE bs w3 ov (accF l ((yh1, yh2), 4, yo, (ya1, ya2), (yb1, yb2), yi) (i + 1))) := by
         rw [HFP.out, HFX.out, List.append_nil]
         exact HJ.out
        clear HJ HFP HB HA2 HXO HFX
        go_wp2_with fail
        go_roundg (n - (i + 1))
        case measure => omega
        case rel => exact ⟨i + 1, _, by omega, rfl, by go_num, rfl, HN2⟩
       case true =>
        have hbt := of_decide_eq_true HBI.out
        rw [if_pos (by first | exact .inr ⟨rfl, hbt⟩ | exact .inr ⟨trivial, hbt⟩ | simp [hbt])] at HFX
        clear hbt
        have HK2 : Hid (KF WA (w3.alloc (.cells #[.string ⟨x3.toArray⟩] 9)) ∧ OwnK strE bs (w3.alloc (.cells #[.string ⟨x3.toArray⟩] 9)) ov (accF l ((yh1, yh2), 4, yo, (ya1, ya2), (yb1, yb2), yi) i)) := ⟨HJ.out.1.trans ((Keeps.refl _ _).alloc _), HJ.out.2.keeps ((Keeps.refl (fun _ => False) w3).alloc _) (fun _ _ z => z)⟩
        have HSZ := Lib.hid (show bs ≤ (w3.alloc (.cells #[.string ⟨x3.toArray⟩] 9)).heap.size from by have := HK2.out.1.size; have := HBS.out; omega)
        go_wp2_with (at_builtin; refine app_fp (E := strE) rfl _ _ rfl bs ov (accF l ((yh1, yh2), 4, yo, (ya1, ya2), (yb1, yb2), yi) i) rfl HK2.out.2 _ [x3] rfl (srcK_str (one_src w3 x3)).1 (by simp) (by have := HXL.out; have := HFL.out; have := accF_le l ((yh1, yh2), 4, yo, (ya1, ya2), (yb1, yb2), yi) i; simp only [List.length_cons, List.length_nil]; omega) HSZ.out ?_)
        intro ao' cap' w6 ho hk hf
        have HN2 : Hid (KF WA w6 ∧ OwnK strE bs w6 _ (accF l ((yh1, yh2), 4, yo, (ya1, ya2), (yb1, yb2), yi) (i + 1))) := ⟨HK2.out.1.trans_new hk (fun q hq e => by have := own_block HK2.out.2 q e; have := HBS.out; omega), by rw [HFP.out, HFX.out]; exact ho⟩
        clear HK2 HSZ HJ HFP HB HA2 HXO HFX ho hk hf p0 p1 p2 p3 p4 p5 p6 p7 p8 q0 q1 q2
        have p0 := (cf9 ((HN2.out.1.block _ (lt_of_heap HA.out) (fun x => x)).trans HA.out)).1
        go_wp2_with fail
        go_roundg (n - (i + 1))
        case measure => omega
        case rel => exact ⟨i + 1, _, by omega, rfl, by go_num, rfl, HN2⟩
      case neg =>
       obtain rfl : yk = 3 := by omega
       rw [if_neg (show ¬ ((3 : Int) = 2 ∨ ((3 : Int) = 4 ∧ ((yb1, yb2), x3) ∈ l)) by rintro (h | h); cases h; cases h.1), if_pos rfl, List.nil_append] at HFX
       have hbl := HXL.out
       rw [HFP.out, HFX.out, List.length_append] at hbl
       have HBL := Lib.hid hbl
       clear hbl
       have HI1 : Hid (KF WA w2 ∧ OwnK strE bs w2 ov (accI (accF l ((yh1, yh2), 3, yo, (ya1, ya2), (yb1, yb2), yi) i) l 0 (x3, yi))) := ⟨HJ.out.1, by rw [accI_zero]; exact HJ.out.2⟩
       clear HJ
       have HXB : Hid (w2.heap[xb]? = some (.cells #[.string ⟨x1.toArray⟩, .string ⟨x2.toArray⟩, .string ⟨x3.toArray⟩] 136)) := HB.out
       have HKX : Hid (KF w2 w2) := Keeps.refl _ _
       clear HB
       go_wp2_with fail
       clear p0 p1 p2 p3 p4 p5 p6 p7 p8 q0 q1 q2
       go_loopg [5, 53] n (fun g o t wx => ∃ (j : Nat) (ov : Value), j ≤ n ∧ g = n - j ∧ t = .int .i64 j ∧ ov = o ∧ Hid (KF WA wx ∧ OwnK strE bs wx ov (accI (accF l ((yh1, yh2), 3, yo, (ya1, ya2), (yb1, yb2), yi) i) l j (x3, yi))) ∧ wx.heap[xb]? = some (.cells #[.string ⟨x1.toArray⟩, .string ⟨x2.toArray⟩, .string ⟨x3.toArray⟩] 136) ∧ Hid (∀ k, ov.ownBlock = some k → k ≠ xb))
       case atStart => exact ⟨0, _, Nat.zero_le _, rfl, rfl, rfl, HI1, HXB.out, fun k hk => by have := HXO.out k hk; omega⟩
       case round =>
        clear HI1 HXB HKX HXO
        obtain ⟨j, ov, hj, rfl, rfl, rfl, HI, hXB, HNO⟩ := hrel
        have HXB := Lib.hid hXB
        clear hXB
        by_cases hltz : j < n
        ·skip
         have hjI : (j : Int) < (n : Int) := by omega
         have hwj : IntKind.i64.wrap ((j : Int) + 1) = (j : Int) + 1 := IntWalk.i64_in _ (by omega)
         have hjcap : j < cap := by omega
         obtain ⟨z, hz⟩ : ∃ y, l[j]? = some y := ⟨_, List.getElem?_eq_getElem (by rw [HN.out]; exact hltz)⟩
         obtain ⟨aoz, cpz, ez, hez, hrz⟩ := id (HV.out.keeps (HK0.out.trans HI.out.1))
         obtain ⟨g, off, hao, hg, hcc⟩ := hrz (by rw [HN.out]; omega)
         simp only [Value.slice.injEq] at ez
         obtain ⟨rfl, hzz, rfl⟩ := ez
         simp only [Option.some.injEq, Addr.mk.injEq, and_true] at hao
         obtain ⟨rfl, rfl⟩ := hao
         have hc := hcc j z hz
         have HIY := Lib.hid (fun e => accI_yes (A := (accF l ((yh1, yh2), 3, yo, (ya1, ya2), (yb1, yb2), yi) i)) hz (r := (x3, yi)) e)
         have HIN2 := Lib.hid (fun e => accI_no (A := (accF l ((yh1, yh2), 3, yo, (ya1, ya2), (yb1, yb2), yi) i)) hz (r := (x3, yi)) e)
         obtain ⟨⟨z1, z2⟩, z3⟩ := z
         clear hcc hrz hez hzz hz
         have c0 : wr.cell? ⟨g, off + j * 3, none⟩ = some (.string ⟨z1.toArray⟩) := hc 0 _ rfl
         have c1 : wr.cell? ⟨g, off + j * 3 + 1, none⟩ = some (.string ⟨z2.toArray⟩) := hc 1 _ rfl
         have c2 : wr.cell? ⟨g, off + j * 3 + 2, none⟩ = some (.string ⟨z3.toArray⟩) := hc 2 _ rfl
         have hka : KF wr (wr.alloc (.cells #[.string ⟨z1.toArray⟩, .string ⟨z2.toArray⟩, .string ⟨z3.toArray⟩] 136)) := (Keeps.refl _ _).alloc _
         have hal := (MapKept.heap_alloc wr (.cells #[.string ⟨z1.toArray⟩, .string ⟨z2.toArray⟩, .string ⟨z3.toArray⟩] 136)).1
         have HJ : Hid (KF WA (wr.alloc (.cells #[.string ⟨z1.toArray⟩, .string ⟨z2.toArray⟩, .string ⟨z3.toArray⟩] 136)) ∧ OwnK strE bs (wr.alloc (.cells #[.string ⟨z1.toArray⟩, .string ⟨z2.toArray⟩, .string ⟨z3.toArray⟩] 136)) ov (accI (accF l ((yh1, yh2), 3, yo, (ya1, ya2), (yb1, yb2), yi) i) l j (x3, yi))) := ⟨HI.out.1.trans hka, HI.out.2.keeps hka (fun _ _ z => z)⟩
         have HX2 := Lib.hid ((hka.block _ (lt_of_heap HXB.out) (fun x => x)).trans HXB.out)
         obtain ⟨zb, hzb⟩ : ∃ b, wr.heap.size = b := ⟨_, rfl⟩
         rw [hzb] at hal
         have HZ := Lib.hid hal
         go_upto_region 14 with fail
         (try simp only [hzb])
         clear hka hal hzb hc hg HI c0 c1 c2
         generalize wr.alloc (.cells #[.string ⟨z1.toArray⟩, .string ⟨z2.toArray⟩, .string ⟨z3.toArray⟩] 136) = w4 at *
         have HA4 := Lib.hid ((HJ.out.1.block _ (lt_of_heap HA.out) (fun x => x)).trans HA.out)
         obtain ⟨q0, f0, q1, f1, q2, f2⟩ := cf3 HX2.out
         obtain ⟨r0, f0', r1, f1', r2, f2'⟩ := cf3 HZ.out
         obtain ⟨p0, g0, p1, g1, p2, g2, p3, g3, p4, g4, p5, g5, p6, g6, p7, g7, p8, g8⟩ := cf9 HA4.out
         clear f0 f1 f2 f0' f1' f2' g0 g1 g2 g3 g4 g5 g6 g7 g8
         have qe := rol_eql2 z1 z2 x3 yi
         by_cases ez : ((z1, z2) : Rol) = (x3, yi)
         case neg =>
          rw [decide_eq_false ez] at qe
          have HN2 : Hid (KF WA w4 ∧ OwnK strE bs w4 ov (accI (accF l ((yh1, yh2), 3, yo, (ya1, ya2), (yb1, yb2), yi) i) l (j + 1) (x3, yi))) := by
           rw [HIN2.out ez]
           exact HJ.out
          have HXN := Lib.hid HX2.out
          have HNN := Lib.hid HNO.out
          clear HNO HJ HX2 HZ HA4 HIY HIN2
          go_wp2_with fail
          go_roundg (n - (j + 1))
          case measure => omega
          case rel => exact ⟨j + 1, _, by omega, rfl, by go_num, rfl, HN2, HXN.out, HNN⟩
         case pos =>
          rw [decide_eq_true ez] at qe
          have HK2 : Hid (KF WA (w4.alloc (.cells #[.string ⟨z3.toArray⟩] 9)) ∧ OwnK strE bs (w4.alloc (.cells #[.string ⟨z3.toArray⟩] 9)) ov (accI (accF l ((yh1, yh2), 3, yo, (ya1, ya2), (yb1, yb2), yi) i) l j (x3, yi))) := ⟨HJ.out.1.trans ((Keeps.refl _ _).alloc _), HJ.out.2.keeps ((Keeps.refl (fun _ => False) w4).alloc _) (fun _ _ z => z)⟩
          have HX5 : Hid ((w4.alloc (.cells #[.string ⟨z3.toArray⟩] 9)).heap[xb]? = some (.cells #[.string ⟨x1.toArray⟩, .string ⟨x2.toArray⟩, .string ⟨x3.toArray⟩] 136)) := ((((Keeps.refl (fun _ => False) w4).alloc _).block _ (lt_of_heap HX2.out) (fun x => x)).trans HX2.out)
          have HSZ := Lib.hid (show bs ≤ (w4.alloc (.cells #[.string ⟨z3.toArray⟩] 9)).heap.size from by have := HK2.out.1.size; have := HBS.out; omega)
          go_wp2_with (at_builtin; refine app_fp (E := strE) rfl _ _ rfl bs ov (accI (accF l ((yh1, yh2), 3, yo, (ya1, ya2), (yb1, yb2), yi) i) l j (x3, yi)) rfl HK2.out.2 _ [z3] rfl (srcK_str (one_src w4 z3)).1 (by simp) (by have := HBL.out; have := HFL.out; have := accI_le (accF l ((yh1, yh2), 3, yo, (ya1, ya2), (yb1, yb2), yi) i) l j (x3, yi); simp only [List.length_cons, List.length_nil]; omega) HSZ.out ?_)
          intro ao' cap' w6 ho hk hf
          have hx5 := lt_of_heap HX5.out
          have HN2 : Hid (KF WA w6 ∧ OwnK strE bs w6 _ (accI (accF l ((yh1, yh2), 3, yo, (ya1, ya2), (yb1, yb2), yi) i) l (j + 1) (x3, yi))) := ⟨HK2.out.1.trans_new hk (fun q hq e => by have := own_block HK2.out.2 q e; have := HBS.out; omega), by rw [HIY.out ez]; exact ho⟩
          have HXN : Hid (w6.heap[xb]? = some (.cells #[.string ⟨x1.toArray⟩, .string ⟨x2.toArray⟩, .string ⟨x3.toArray⟩] 136)) := (hk.block _ hx5 (fun e => HNO.out _ e rfl)).trans HX5.out
          have HNN := Lib.hid (fun k e => (hf k e).elim (HNO.out k) (fun z => by rw [size_alloc] at hx5; omega))
          clear HK2 HX5 HSZ HJ HX2 HZ HA4 HIY HIN2 HNO ho hk hf hx5 p0 p1 p2 p3 p4 p5 p6 p7 p8 q0 q1 q2 r0 r1 r2
          go_wp2_with fail
          go_roundg (n - (j + 1))
          case measure => omega
          case rel => exact ⟨j + 1, _, by omega, rfl, by go_num, rfl, HN2, HXN.out, HNN⟩
        ·obtain rfl : n = j := by omega
         have hjI : ¬ (n : Int) < (n : Int) := by omega
         have HN2 : Hid (KF WA wr ∧ OwnK strE bs wr ov (accF l ((yh1, yh2), 3, yo, (ya1, ya2), (yb1, yb2), yi) (i + 1))) := by
          rw [HFP.out, HFX.out]
          have q := HI.out
          rw [accI_all HN.out] at q
          exact q
         clear HI HXB HFP HFX HNO
         go_wp2_with fail
         go_roundg (n - (i + 1))
         case measure => omega
         case rel => exact ⟨i + 1, _, by omega, rfl, by go_num, rfl, HN2⟩
   ·obtain rfl : n = i := by omega
    have hiI : ¬ (n : Int) < (n : Int) := by omega
    have HE : Hid (KF W wr ∧ ReadsS wr ov (folL l ((yh1, yh2), yk, yo, (ya1, ya2), (yb1, yb2), yi)) ∧ ∀ k, ov.ownBlock = some k → W.heap.size ≤ k ∧ k < wr.heap.size) := by
     rw [HFE.out]
     have q := HI.out
     rw [accF_all HN.out] at q
     exact ⟨HK0.out.trans q.1, (ownK_str.1 q.2).reads, fun k hk => ⟨by have := own_block q.2 k hk; have := HBS.out; have := HK0.out.size; omega, own_lt q.2 k hk⟩⟩
    clear HI
    go_wp2_with fail
    go_ret
    exact ⟨_, rfl, HE⟩
end Go.Proofs.YtckikkkdabpjkaaGreat
