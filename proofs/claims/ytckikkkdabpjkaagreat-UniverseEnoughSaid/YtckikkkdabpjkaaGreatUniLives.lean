/-
 The example of layer 21 is as it says.
-/
import Derived.Test.YtckikkkdabpjkaaGreatKitSq
import Derived.Test.YtckikkkdabpjkaaGreatUniOf
import Derived.Test.YtckikkkdabpjkaaGreatMR
set_option linter.unusedVariables false
set_option linter.unusedSimpArgs false
set_option linter.unnecessarySimpa false
namespace Go.Proofs.YtckikkkdabpjkaaGreat
open Go.ChangeShapes Go.WideShapes Go.ChangeAt Go.RowKit Go.Deep
set_option maxRecDepth 100000
set_option maxHeartbeats 6400000
theorem role21_spec {W : World} (a b : ByteArray) : Calls Tryz.prog 62 #[.string a, .string b] W fun e W' => e = .returned (.agg #[.string a, .string b]) ∧ Hid (KF W W') := by
 have hal := (MapKept.heap_alloc W (.cells #[.string ⟨#[]⟩, .string ⟨#[]⟩] 28)).1
 have hk := (Keeps.refl (fun _ => False) W).alloc (.cells #[.string ⟨#[]⟩, .string ⟨#[]⟩] 28)
 obtain ⟨WA, hWA⟩ : ∃ q, W.alloc (.cells #[.string ⟨#[]⟩, .string ⟨#[]⟩] 28) = q := ⟨_, rfl⟩
 rw [hWA] at hal hk
 obtain ⟨x0, y0, x1, y1⟩ := cf2 hal
 have h1 : (WA.setCell ⟨W.heap.size, 0, none⟩ (.string a)).heap[W.heap.size]? = some (.cells #[.string a, .string ⟨#[]⟩] 28) := heap_set hal 0 _
 have h2 : ((WA.setCell ⟨W.heap.size, 0, none⟩ (.string a)).setCell ⟨W.heap.size, 1, none⟩ (.string b)).heap[W.heap.size]? = some (.cells #[.string a, .string b] 28) := heap_set h1 1 _
 have hk2 : Keeps (fun q => q = W.heap.size) WA ((WA.setCell ⟨W.heap.size, 0, none⟩ (.string a)).setCell ⟨W.heap.size, 1, none⟩ (.string b)) := Keeps.setCell (S := fun q => q = W.heap.size) (Keeps.setCell (S := fun q => q = W.heap.size) (Keeps.refl _ _) (p := ⟨W.heap.size, 0, none⟩) (fun _ => rfl) _) (p := ⟨W.heap.size, 1, none⟩) (fun _ => rfl) _
 have HK := Lib.hid (hk.trans_new hk2 (fun q hq e => by have e : q = W.heap.size := e; omega))
 have HV := Lib.hid h2
 obtain ⟨bb, hbb⟩ : ∃ q, W.heap.size = q := ⟨_, rfl⟩
 rw [hbb] at x0 y0 x1 y1 HK HV
 clear hal hk h1 h2 hk2
 go_enter Tryz.func62, Tryz.ntmps62
 go_upto_region 1 with fail
 (try simp only [hWA, hbb])
 clear hWA hbb
 go_wp2_with fail
 clear x0 y0 x1 y1
 generalize (WA.setCell ⟨bb, 0, none⟩ (.string a)).setCell ⟨bb, 1, none⟩ (.string b) = w9 at *
 obtain ⟨x0, y0, x1, y1⟩ := cf2 HV.out
 refine bodyPost_ret (v := .agg #[.string a, .string b]) (by simp [results, Tryz.results62, go_sem, *]) rfl ?_
 exact ⟨rfl, HK⟩
def q21 : Qry := (6, ([65], [114]), ([66], [115]), [])
def r21 : List Rol := [([65], [114]), ([66], [115])]
def b21 : List Stm := [x20, memS ([66], [115]) [65], memS ([66], [115]) [66], memS ([66], [115]) [88, 49]]
theorem fits21 : fitsPB (p20.1, p20.2.1, p20.2.2.1, [q21]) = true := by
 unfold fitsPB
 rw [← puts_tab, ← puts_tab]
 decide +kernel
theorem ask21 : askB p20 q21 = true := by
 unfold askB polRB
 rw [show fitsPB (p20.1, p20.2.1, p20.2.2.1, [q21]) = true from fits21]
 decide +kernel
theorem way21 : OnWay p20.2.1 p20.2.2.1 p20.1 q21.2.1 q21.2.2.1 r21 [] := by
 have h := (OnWay.begin (g := p20.2.1) (h := p20.2.2.1) (l := p20.1) (A := q21.2.1) (B := q21.2.2.1)).step (R0 := sortO rolLt [q21.2.1, q21.2.2.1]) (L0 := []) (fun _ h => h) (fun _ h => h) (x := x20) (by decide +kernel) (by decide +kernel)
 have e1 : addR (sortO rolLt [q21.2.1, q21.2.2.1]) x20 = r21 := by decide +kernel
 have e2 : addL [] x20 = [] := by decide +kernel
 rw [e1, e2] at h
 exact h
theorem shut21 : Shut2 p20.2.1 p20.2.2.1 p20.1 r21 [] := fun x hx _ => by
 obtain rfl : x = x20 := by simpa [p20] using hx
 exact ⟨fun r hr => by
  have e : moreS x20 = [([66], [115])] := by decide +kernel
  rw [e] at hr
  obtain rfl := List.mem_singleton.1 hr
  decide +kernel, fun t ht => by
  have e : viaS x20 = [] := by decide +kernel
  rw [e] at ht
  cases ht⟩
theorem uN21 : uN p20 q21 r21 [] = 1 := by
 unfold uN
 rw [show linkV p20.2.1 p20.2.2.1 p20.1 r21 [] = false by decide +kernel]
 rfl
theorem uF21 : uF p20 q21 r21 [] = [[88, 49]] := by
 unfold uF
 rw [uN21]
 have ex : xL 1 = [88, 49] := by unfold xL; rw [decL_lt (by decide)]; rfl
 have eu : freshUp (tabL (prinsA (uPol p20 q21))) 1 = [[88, 49]] := by
  have hz : freshUp (tabL (prinsA (uPol p20 q21))) 0 = [] := rfl
  rw [show (1 : Nat) = 0 + 1 from rfl, freshUp_succ, ex, hz, ← puts_tab, if_neg (by decide +kernel)]
  rfl
 rw [← fresh_done (K := 1) (by rw [eu]; rfl), eu]
theorem uV21 : uV p20 r21 [] = [[65], [66]] := by
 unfold uV
 rw [← puts_tab]
 decide +kernel
theorem uP21 : uP p20 q21 r21 [] = [[65], [66], [88, 49]] := by
 unfold uP
 rw [uF21, uV21, ← puts_tab]
 decide +kernel
theorem uB21 : uB p20 q21 r21 [] = b21 := by
 unfold uB uFr
 rw [uP21]
 decide +kernel
theorem uSt21 : uState (uBase p20.1 r21 []) (fixV p20.2.1 p20.2.2.1 p20.1 r21 []) b21 1 = [x20] := by decide +kernel
theorem fr21 : (uFr p20 q21 r21 []).length = 1 := by
 unfold uFr
 rw [uP21]
 decide +kernel
theorem lives21_spec (W : World) : Calls Tryz.prog 31 #[] W fun e W' => e = .returned (.bool true) ∧ Hid (KF W W') := by
 have HRO := Lib.hid (fun (w : World) (a b : ByteArray) => role21_spec (W := w) a b)
 go_enter Tryz.func31, Tryz.ntmps31
 go_upto_region 1 with fail
 go_wp2_with fail
 refine (HRO.out _ _ _).mono ?_
 rintro e w1 ⟨rfl, hk1⟩
 go_wp2_with fail
 refine (HRO.out _ _ _).mono ?_
 rintro e w2 ⟨rfl, hk2⟩
 have HK2 := Lib.hid (hk1.out.trans hk2.out)
 have hka : KF w2 (w2.alloc (.cells #[.int .i64 2, .string ⟨#[65]⟩, .string ⟨#[114]⟩, .string ⟨#[]⟩, .string ⟨#[66]⟩, .string ⟨#[115]⟩, .string ⟨#[]⟩, .string ⟨#[]⟩, .string ⟨#[]⟩] 38)) := (Keeps.refl _ _).alloc _
 have HS : Hid (RdX stmE (w2.alloc (.cells #[.int .i64 2, .string ⟨#[65]⟩, .string ⟨#[114]⟩, .string ⟨#[]⟩, .string ⟨#[66]⟩, .string ⟨#[115]⟩, .string ⟨#[]⟩, .string ⟨#[]⟩, .string ⟨#[]⟩] 38)) (.slice (some ⟨w2.heap.size, 0, none⟩) 1 1) [x20] (fun _ => True)) := ⟨one_srcK (E := stmE) w2 x20 #[.int .i64 2, .string ⟨#[65]⟩, .string ⟨#[114]⟩, .string ⟨#[]⟩, .string ⟨#[66]⟩, .string ⟨#[115]⟩, .string ⟨#[]⟩, .string ⟨#[]⟩, .string ⟨#[]⟩] rfl, fun k hk => ⟨by simp only [Value.ownBlock, Option.map_some, Option.some.injEq] at hk; rw [← hk]; exact lt_of_heap (MapKept.heap_alloc w2 (.cells #[.int .i64 2, .string ⟨#[65]⟩, .string ⟨#[114]⟩, .string ⟨#[]⟩, .string ⟨#[66]⟩, .string ⟨#[115]⟩, .string ⟨#[]⟩, .string ⟨#[]⟩, .string ⟨#[]⟩] 38)).1, trivial⟩⟩
 have HK3 := Lib.hid (HK2.out.trans hka)
 clear hk1 hk2 HK2 hka
 obtain ⟨sb, hsb⟩ : ∃ q, w2.heap.size = q := ⟨_, rfl⟩
 rw [hsb] at HS
 go_wp2_with fail
 (try simp only [hsb])
 generalize w2.alloc (.cells #[.int .i64 2, .string ⟨#[65]⟩, .string ⟨#[114]⟩, .string ⟨#[]⟩, .string ⟨#[66]⟩, .string ⟨#[115]⟩, .string ⟨#[]⟩, .string ⟨#[]⟩, .string ⟨#[]⟩] 38) = w3 at *
 refine (HRO.out _ _ _).mono ?_
 rintro e w4 ⟨rfl, hk⟩
 have HK4 := Lib.hid (HK3.out.trans hk.out)
 have HS4 := Lib.hid (HS.out.keeps hk.out (fun _ _ _ x => x))
 have hka : KF w4 (w4.alloc (.cells #[.string ⟨#[65]⟩, .string ⟨#[114]⟩] 28)) := (Keeps.refl _ _).alloc _
 have HG : Hid (RdX rolE (w4.alloc (.cells #[.string ⟨#[65]⟩, .string ⟨#[114]⟩] 28)) (.slice (some ⟨w4.heap.size, 0, none⟩) 1 1) [([65], [114])] (fun _ => True)) := ⟨one_srcK (E := rolE) w4 ([65], [114]) #[.string ⟨#[65]⟩, .string ⟨#[114]⟩] rfl, fun k hk => ⟨by simp only [Value.ownBlock, Option.map_some, Option.some.injEq] at hk; rw [← hk]; exact lt_of_heap (MapKept.heap_alloc w4 (.cells #[.string ⟨#[65]⟩, .string ⟨#[114]⟩] 28)).1, trivial⟩⟩
 have HS5 := Lib.hid (HS4.out.keeps hka (fun _ _ _ x => x))
 have HK5 := Lib.hid (HK4.out.trans hka)
 clear HK3 HK4 HS HS4 hk hka hsb
 obtain ⟨rb, hrb⟩ : ∃ q, w4.heap.size = q := ⟨_, rfl⟩
 rw [hrb] at HG
 obtain ⟨w5, hw5⟩ : ∃ q, w4.alloc (.cells #[.string ⟨#[65]⟩, .string ⟨#[114]⟩] 28) = q := ⟨_, rfl⟩
 rw [hw5] at HG HS5 HK5
 have hal := (MapKept.heap_alloc w5 (.cells #[.slice (some ⟨sb, 0, none⟩) 1 1, .slice (some ⟨rb, 0, none⟩) 1 1, .slice none 0 0, .slice none 0 0] 26)).1
 have hka : KF w5 (w5.alloc (.cells #[.slice (some ⟨sb, 0, none⟩) 1 1, .slice (some ⟨rb, 0, none⟩) 1 1, .slice none 0 0, .slice none 0 0] 26)) := (Keeps.refl _ _).alloc _
 obtain ⟨pb, hpb⟩ : ∃ q, w5.heap.size = q := ⟨_, rfl⟩
 rw [hpb] at hal
 have HP := Lib.hid hal
 have HH : Hid (PolH (w5.alloc (.cells #[.slice (some ⟨sb, 0, none⟩) 1 1, .slice (some ⟨rb, 0, none⟩) 1 1, .slice none 0 0, .slice none 0 0] 26)) (.slice (some ⟨sb, 0, none⟩) 1 1) (.slice (some ⟨rb, 0, none⟩) 1 1) (.slice none 0 0) p20 (fun _ => True)) := ⟨HS5.out.keeps hka (fun _ _ _ x => x), HG.out.keeps hka (fun _ _ _ x => x), rdX_nil _ _ _⟩
 have HK6 := Lib.hid (HK5.out.trans hka)
 clear HS5 HG HK5 hal hka
 go_upto_region 2 with fail
 (try simp only [hrb, hw5, hpb])
 clear hrb hw5 hpb
 generalize w5.alloc (.cells #[.slice (some ⟨sb, 0, none⟩) 1 1, .slice (some ⟨rb, 0, none⟩) 1 1, .slice none 0 0, .slice none 0 0] 26) = w6 at *
 obtain ⟨p0, f0, p1, f1, p2, f2, p3, f3⟩ := cf4 HP.out
 clear f0 f1 f2 f3
 go_cut [2, 3] (fun a c wx => ∃ (ro lo po fo oo go qo bo zo : Option Addr) (rn rc ln lc pn pc fn' fc on' oc gn gc qc bc zn zc : Nat) (lk : Bool) (ub : Nat), a = .pointer (some ⟨ub, 0, none⟩) ∧ c = .int .i64 0 ∧ Hid (KF W wx ∧ wx.heap[ub]? = some (.cells #[.slice ro rn rc, .slice lo ln lc, .slice po pn pc, .slice fo fn' fc, .slice oo on' oc, .slice go gn gc, .bool lk, .slice qo 3 qc, .slice bo 4 bc, .slice zo zn zc] 54) ∧ SrcK stmE wx (.slice zo zn zc) (uBase p20.1 r21 []) ∧ SrcK stmE wx (.slice fo fn' fc) (fixV p20.2.1 p20.2.2.1 p20.1 r21 []) ∧ RdK stmE wx (.slice bo 4 bc) b21 ∧ ReadsS wx (.slice qo 3 qc) [[65], [66], [88, 49]]))
 case first =>
  have HMK42 : Hid (∀ w' : World, KF w6 w' → w'.cell? ⟨pb, 0, none⟩ = some (.slice (some ⟨sb, 0, none⟩) 1 1) ∧ w'.cell? ⟨pb, 1, none⟩ = some (.slice (some ⟨rb, 0, none⟩) 1 1) ∧ w'.cell? ⟨pb, 2, none⟩ = some (.slice none 0 0) ∧ w'.cell? ⟨pb, 3, none⟩ = some (.slice none 0 0)) := fun w' hk => ⟨kc hk p0, kc hk p1, kc hk p2, kc hk p3⟩
  have HKX42 : Hid (KF w6 w6.drew) := (Keeps.refl _ _).drew
  have hS0 := HMK42.out _ HKX42.out
  clear p0 p1 p2 p3
  refine wp_region_noPanic ?_
  refine wp_region_held_drew (S := (fun w' => w'.cell? ⟨pb, 0, none⟩ = some (.slice (some ⟨sb, 0, none⟩) 1 1) ∧ w'.cell? ⟨pb, 1, none⟩ = some (.slice (some ⟨rb, 0, none⟩) 1 1) ∧ w'.cell? ⟨pb, 2, none⟩ = some (.slice none 0 0) ∧ w'.cell? ⟨pb, 3, none⟩ = some (.slice none 0 0))) (by kernel_rfl) hS0 (fun hHeld => ?_)
  clear hS0
  generalize w6.drew = wA at *
  refine tk 0 rfl hHeld ?_
  (try simp only [nz])
  refine wpAnyH_two (i := 1) (j := 8) (by kernel_rfl) rfl rfl (fun KK hK => ?pA44) (fun KK hK => ?pB44)
  case pA44 =>
   go_simp
   refine (HRO.out _ _ _).mono ?_
   rintro e wR1 ⟨rfl, hk⟩
   replace HKX42 := Lib.hid (HKX42.out.trans hk.out)
   clear hk
   go_simp
   refine hK.out _ _ (HMK42.out _ HKX42.out) fun hHeld => ?_
   clear hK KK
   (try simp only [nz])
   refine wpAnyH_two (i := 2) (j := 8) (by kernel_rfl) rfl rfl (fun KK hK => ?pA46) (fun KK hK => ?pB46)
   case pA46 =>
    go_simp
    refine (HRO.out _ _ _).mono ?_
    rintro e wR2 ⟨rfl, hk⟩
    replace HKX42 := Lib.hid (HKX42.out.trans hk.out)
    clear hk
    go_simp
    refine hK.out _ _ (HMK42.out _ HKX42.out) fun hHeld => ?_
    clear hK KK
    refine tk 3 rfl hHeld ?_
    (try simp only [nz])
    refine wpAnyH_two (i := 4) (j := 8) (by kernel_rfl) rfl rfl (fun KK hK => ?pA49) (fun KK hK => ?pB49)
    case pA49 =>
     have HOF := Lib.hid (uof_spec (HH.out.into HKX42.out (fun _ _ _ x => x) (fun _ _ x => x)) (jo := none) (jn := 0) (jc := 0) (q := q21) (by decide) (by decide) (by decide) (⟨⟨none, 0, rfl, Nat.le_refl _, fun h => absurd h (by simp [q21])⟩, fun k hk => by simp [Value.ownBlock] at hk⟩ : RowX wR2 (.slice none 0 0) q21.2.2.2 (fun _ => True)) (by decide))
     go_simp
     refine HOF.out.mono ?_
     rintro e wF hof
     obtain ⟨hk, hof2⟩ := hof.out
     rcases hof2 with ⟨c, hc0, _, hwhy⟩ | ⟨_, rv, lv, pv, fv, ov, gv, lk, qv, bv, av, R, Lk, rfl, hu⟩
     ·exfalso
      rcases hwhy with ⟨_, h2⟩ | ⟨_, R, Lk, h1, h2, h3⟩
      ·rw [ask21] at h2; cases h2
      ·obtain ⟨rfl, rfl⟩ := OnWay.one h1 way21 h2 shut21
       rcases h3 with ⟨_, h4⟩ | ⟨_, _, h4⟩
       ·rw [uN21] at h4; cases h4
       ·rw [fr21, uB21] at h4
        rcases h4 with h4 | h4 <;> exact absurd h4 (by decide)
     obtain ⟨rfl, rfl⟩ := OnWay.one hu.V.way way21 hu.V.shut shut21
     obtain ⟨ro, rc, hrv, _⟩ := id hu.V.rR.reads
     obtain ⟨lo, lc, hlv, _⟩ := id hu.V.rL.reads
     obtain ⟨po, pc, hpv, _⟩ := id hu.V.rP.reads
     obtain ⟨fo, fc, hfv, _⟩ := id hu.V.rF.reads
     obtain ⟨oo, oc, hov, _⟩ := id hu.V.rO.reads
     obtain ⟨go, gc, hgv, _⟩ := id hu.V.rG.reads
     have huP := hu.P
     have huB := hu.B
     rw [uP21] at huP
     rw [uB21] at huB
     obtain ⟨qo, qc, hqv, _⟩ := id huP.reads
     obtain ⟨bo, bc, hbv, _⟩ := id huB.reads
     obtain ⟨zo, zc, hzv, _⟩ := id hu.A.1.1
     obtain ⟨rn, hrn⟩ : ∃ n : Nat, rv = .slice ro n rc := ⟨_, hrv⟩
     obtain ⟨ln, hln⟩ : ∃ n : Nat, lv = .slice lo n lc := ⟨_, hlv⟩
     obtain ⟨pn, hpn⟩ : ∃ n : Nat, pv = .slice po n pc := ⟨_, hpv⟩
     obtain ⟨fn', hfn⟩ : ∃ n : Nat, fv = .slice fo n fc := ⟨_, hfv⟩
     obtain ⟨on', hon⟩ : ∃ n : Nat, ov = .slice oo n oc := ⟨_, hov⟩
     obtain ⟨gn, hgn⟩ : ∃ n : Nat, gv = .slice go n gc := ⟨_, hgv⟩
     obtain ⟨zn, hzn⟩ : ∃ n : Nat, av = .slice zo n zc := ⟨_, hzv⟩
     obtain rfl : qv = .slice qo 3 qc := hqv
     obtain rfl : bv = .slice bo 4 bc := hbv
     subst hrn hln hpn hfn hon hgn hzn
     have HVF := Lib.hid hu.V.rF
     have HVB := Lib.hid huB
     have HVP := Lib.hid huP
     have HVA := Lib.hid hu.A
     replace HKX42 := Lib.hid (HKX42.out.trans hk)
     clear hk hu hof huP huB hrv hlv hpv hfv hov hgv hzv HOF
     go_simp
     refine hK.out _ _ (HMK42.out _ HKX42.out) fun hHeld => ?_
     clear hK KK
     refine tk 5 rfl hHeld ?_
     refine tk 6 rfl hHeld ?_
     (try simp only [nz])
     refine tk 7 rfl hHeld ?_
     (try simp only [nz])
     refine on1 8 rfl fun KK hK => ?_
     have hkE : KF wF (wF.alloc (.cells #[.slice none 0 0, .slice none 0 0, .slice none 0 0, .slice none 0 0, .slice none 0 0, .slice none 0 0, .bool false, .slice none 0 0, .slice none 0 0, .slice none 0 0] 54)) := (Keeps.refl _ _).alloc _
     have HZB : Hid ((wF.alloc (.cells #[.slice none 0 0, .slice none 0 0, .slice none 0 0, .slice none 0 0, .slice none 0 0, .slice none 0 0, .bool false, .slice none 0 0, .slice none 0 0, .slice none 0 0] 54)).heap[wF.heap.size]? = some (.cells #[.slice none 0 0, .slice none 0 0, .slice none 0 0, .slice none 0 0, .slice none 0 0, .slice none 0 0, .bool false, .slice none 0 0, .slice none 0 0, .slice none 0 0] 54)) := (MapKept.heap_alloc wF (.cells #[.slice none 0 0, .slice none 0 0, .slice none 0 0, .slice none 0 0, .slice none 0 0, .slice none 0 0, .bool false, .slice none 0 0, .slice none 0 0, .slice none 0 0] 54)).1
     have HZL : Hid (w6.heap.size ≤ wF.heap.size) := HKX42.out.size
     replace HKX42 := Lib.hid (HKX42.out.trans hkE)
     have HVA2 : Hid (RdX stmE (wF.alloc (.cells #[.slice none 0 0, .slice none 0 0, .slice none 0 0, .slice none 0 0, .slice none 0 0, .slice none 0 0, .bool false, .slice none 0 0, .slice none 0 0, .slice none 0 0] 54)) (.slice zo zn zc) (uBase p20.1 r21 []) (fun k => k ≠ wF.heap.size)) := HVA.out.into hkE (fun _ _ _ z => z) (fun k hk _ => by omega)
     clear HVA
     have HVA := HVA2
     clear HVA2
     replace HVF := Lib.hid (HVF.out.keeps hkE (fun _ _ z => z))
     replace HVB := Lib.hid (HVB.out.keeps hkE (fun _ _ z => z))
     replace HVP := Lib.hid (HVP.out.keeps hkE (fun _ _ z => z))
     clear hkE
     go_simp
     refine hK.out _ _ (HMK42.out _ HKX42.out) fun hHeld => ?_
     clear hK KK
     (try simp only [nz])
     generalize (wF.alloc (.cells #[.slice none 0 0, .slice none 0 0, .slice none 0 0, .slice none 0 0, .slice none 0 0, .slice none 0 0, .bool false, .slice none 0 0, .slice none 0 0, .slice none 0 0] 54)) = wZ at *
     obtain ⟨ub, hub⟩ : ∃ vb, wF.heap.size = vb := ⟨_, rfl⟩
     (try simp only [hub])
     (try simp only [hub] at HZB HZL HVA)
     clear hub
     refine on1 9 rfl fun KK hK => ?_
     have h10 := set10 HZB.out (u0 := .slice ro rn rc) (u1 := .slice lo ln lc) (u2 := .slice po pn pc) (u3 := .slice fo fn' fc) (u4 := .slice oo on' oc) (u5 := .slice go gn gc) (u6 := .bool lk) (u7 := .slice qo 3 qc) (u8 := .slice bo 4 bc) (u9 := .slice zo zn zc)
     obtain ⟨v0, f0, v1, f1, v2, f2, v3, f3, v4, f4, v5, f5, v6, f6, v7, f7, v8, f8, v9, f9⟩ := cf10 HZB.out
     replace HKX42 := Lib.hid (HKX42.out.trans_new h10.2 (fun q hq e => by have e : q = ub := e; have := HZL.out; omega))
     have HN : Hid (KF W ((((((((((wZ.setCell ⟨ub, 0, none⟩ (.slice ro rn rc)).setCell ⟨ub, 1, none⟩ (.slice lo ln lc)).setCell ⟨ub, 2, none⟩ (.slice po pn pc)).setCell ⟨ub, 3, none⟩ (.slice fo fn' fc)).setCell ⟨ub, 4, none⟩ (.slice oo on' oc)).setCell ⟨ub, 5, none⟩ (.slice go gn gc)).setCell ⟨ub, 6, none⟩ (.bool lk)).setCell ⟨ub, 7, none⟩ (.slice qo 3 qc)).setCell ⟨ub, 8, none⟩ (.slice bo 4 bc)).setCell ⟨ub, 9, none⟩ (.slice zo zn zc)) ∧ ((((((((((wZ.setCell ⟨ub, 0, none⟩ (.slice ro rn rc)).setCell ⟨ub, 1, none⟩ (.slice lo ln lc)).setCell ⟨ub, 2, none⟩ (.slice po pn pc)).setCell ⟨ub, 3, none⟩ (.slice fo fn' fc)).setCell ⟨ub, 4, none⟩ (.slice oo on' oc)).setCell ⟨ub, 5, none⟩ (.slice go gn gc)).setCell ⟨ub, 6, none⟩ (.bool lk)).setCell ⟨ub, 7, none⟩ (.slice qo 3 qc)).setCell ⟨ub, 8, none⟩ (.slice bo 4 bc)).setCell ⟨ub, 9, none⟩ (.slice zo zn zc)).heap[ub]? = some (.cells #[.slice ro rn rc, .slice lo ln lc, .slice po pn pc, .slice fo fn' fc, .slice oo on' oc, .slice go gn gc, .bool lk, .slice qo 3 qc, .slice bo 4 bc, .slice zo zn zc] 54) ∧ SrcK stmE ((((((((((wZ.setCell ⟨ub, 0, none⟩ (.slice ro rn rc)).setCell ⟨ub, 1, none⟩ (.slice lo ln lc)).setCell ⟨ub, 2, none⟩ (.slice po pn pc)).setCell ⟨ub, 3, none⟩ (.slice fo fn' fc)).setCell ⟨ub, 4, none⟩ (.slice oo on' oc)).setCell ⟨ub, 5, none⟩ (.slice go gn gc)).setCell ⟨ub, 6, none⟩ (.bool lk)).setCell ⟨ub, 7, none⟩ (.slice qo 3 qc)).setCell ⟨ub, 8, none⟩ (.slice bo 4 bc)).setCell ⟨ub, 9, none⟩ (.slice zo zn zc)) (.slice zo zn zc) (uBase p20.1 r21 []) ∧ SrcK stmE ((((((((((wZ.setCell ⟨ub, 0, none⟩ (.slice ro rn rc)).setCell ⟨ub, 1, none⟩ (.slice lo ln lc)).setCell ⟨ub, 2, none⟩ (.slice po pn pc)).setCell ⟨ub, 3, none⟩ (.slice fo fn' fc)).setCell ⟨ub, 4, none⟩ (.slice oo on' oc)).setCell ⟨ub, 5, none⟩ (.slice go gn gc)).setCell ⟨ub, 6, none⟩ (.bool lk)).setCell ⟨ub, 7, none⟩ (.slice qo 3 qc)).setCell ⟨ub, 8, none⟩ (.slice bo 4 bc)).setCell ⟨ub, 9, none⟩ (.slice zo zn zc)) (.slice fo fn' fc) (fixV p20.2.1 p20.2.2.1 p20.1 r21 []) ∧ RdK stmE ((((((((((wZ.setCell ⟨ub, 0, none⟩ (.slice ro rn rc)).setCell ⟨ub, 1, none⟩ (.slice lo ln lc)).setCell ⟨ub, 2, none⟩ (.slice po pn pc)).setCell ⟨ub, 3, none⟩ (.slice fo fn' fc)).setCell ⟨ub, 4, none⟩ (.slice oo on' oc)).setCell ⟨ub, 5, none⟩ (.slice go gn gc)).setCell ⟨ub, 6, none⟩ (.bool lk)).setCell ⟨ub, 7, none⟩ (.slice qo 3 qc)).setCell ⟨ub, 8, none⟩ (.slice bo 4 bc)).setCell ⟨ub, 9, none⟩ (.slice zo zn zc)) (.slice bo 4 bc) b21 ∧ ReadsS ((((((((((wZ.setCell ⟨ub, 0, none⟩ (.slice ro rn rc)).setCell ⟨ub, 1, none⟩ (.slice lo ln lc)).setCell ⟨ub, 2, none⟩ (.slice po pn pc)).setCell ⟨ub, 3, none⟩ (.slice fo fn' fc)).setCell ⟨ub, 4, none⟩ (.slice oo on' oc)).setCell ⟨ub, 5, none⟩ (.slice go gn gc)).setCell ⟨ub, 6, none⟩ (.bool lk)).setCell ⟨ub, 7, none⟩ (.slice qo 3 qc)).setCell ⟨ub, 8, none⟩ (.slice bo 4 bc)).setCell ⟨ub, 9, none⟩ (.slice zo zn zc)) (.slice qo 3 qc) [[65], [66], [88, 49]]) := ⟨HK6.out.trans HKX42.out, h10.1, (HVA.out.into h10.2 (fun q _ hp e => hp e) (fun _ _ _ => trivial) (P' := fun _ => True)).1, (own_off HVF.out HZB.out (by show 54 ≠ 38; decide) h10.2).src, (own_off HVB.out HZB.out (by show 54 ≠ 38; decide) h10.2).reads, (ownK_str.1 (own_off HVP.out HZB.out (by show 54 ≠ 9; decide) h10.2)).reads⟩
     clear h10 HZB HVA HVF HVB HVP HZL
     go_simp
     refine hK.out _ _ (HMK42.out _ HKX42.out) fun hHeld => ?_
     clear hK KK
     (try simp only [nz])
     clear v0 f0 v1 f1 v2 f2 v3 f3 v4 f4 v5 f5 v6 f6 v7 f7 v8 f8 v9 f9
     generalize ((((((((((wZ.setCell ⟨ub, 0, none⟩ (.slice ro rn rc)).setCell ⟨ub, 1, none⟩ (.slice lo ln lc)).setCell ⟨ub, 2, none⟩ (.slice po pn pc)).setCell ⟨ub, 3, none⟩ (.slice fo fn' fc)).setCell ⟨ub, 4, none⟩ (.slice oo on' oc)).setCell ⟨ub, 5, none⟩ (.slice go gn gc)).setCell ⟨ub, 6, none⟩ (.bool lk)).setCell ⟨ub, 7, none⟩ (.slice qo 3 qc)).setCell ⟨ub, 8, none⟩ (.slice bo 4 bc)).setCell ⟨ub, 9, none⟩ (.slice zo zn zc)) = w9 at *
     refine on1 10 rfl fun KK hK => ?_
     go_simp
     refine hK.out _ _ (HMK42.out _ HKX42.out) fun hHeld => ?_
     clear hK KK
     (try simp only [nz])
     refine wpAnyH_done (by kernel_rfl) ?_ _
     refine NoPanic.normal ?_
     clear hHeld HMK42
     clear HKX42
     go_wp2_with fail
     go_meet
     exact ⟨_, _, _, _, _, _, _, _, _, _, _, _, _, _, _, _, _, _, _, _, _, _, _, _, _, _, _, rfl, rfl, HN⟩
    case pB49 =>
     have hkE : KF wR2 (wR2.alloc (.cells #[.slice none 0 0, .slice none 0 0, .slice none 0 0, .slice none 0 0, .slice none 0 0, .slice none 0 0, .bool false, .slice none 0 0, .slice none 0 0, .slice none 0 0] 54)) := (Keeps.refl _ _).alloc _
     have HZB : Hid ((wR2.alloc (.cells #[.slice none 0 0, .slice none 0 0, .slice none 0 0, .slice none 0 0, .slice none 0 0, .slice none 0 0, .bool false, .slice none 0 0, .slice none 0 0, .slice none 0 0] 54)).heap[wR2.heap.size]? = some (.cells #[.slice none 0 0, .slice none 0 0, .slice none 0 0, .slice none 0 0, .slice none 0 0, .slice none 0 0, .bool false, .slice none 0 0, .slice none 0 0, .slice none 0 0] 54)) := (MapKept.heap_alloc wR2 (.cells #[.slice none 0 0, .slice none 0 0, .slice none 0 0, .slice none 0 0, .slice none 0 0, .slice none 0 0, .bool false, .slice none 0 0, .slice none 0 0, .slice none 0 0] 54)).1
     have HZL : Hid (w6.heap.size ≤ wR2.heap.size) := HKX42.out.size
     replace HKX42 := Lib.hid (HKX42.out.trans hkE)
     clear hkE
     go_simp
     refine hK.out _ _ (HMK42.out _ HKX42.out) fun hHeld => ?_
     clear hK KK
     (try simp only [nz])
     generalize (wR2.alloc (.cells #[.slice none 0 0, .slice none 0 0, .slice none 0 0, .slice none 0 0, .slice none 0 0, .slice none 0 0, .bool false, .slice none 0 0, .slice none 0 0, .slice none 0 0] 54)) = wZ at *
     obtain ⟨ub, hub⟩ : ∃ vb, wR2.heap.size = vb := ⟨_, rfl⟩
     (try simp only [hub])
     (try simp only [hub] at HZB HZL)
     clear hub
     refine on1 4 rfl fun KK hK => ?_
     have HOF := Lib.hid (uof_spec (HH.out.into HKX42.out (fun _ _ _ x => x) (fun _ _ x => x)) (jo := none) (jn := 0) (jc := 0) (q := q21) (by decide) (by decide) (by decide) (⟨⟨none, 0, rfl, Nat.le_refl _, fun h => absurd h (by simp [q21])⟩, fun k hk => by simp [Value.ownBlock] at hk⟩ : RowX wZ (.slice none 0 0) q21.2.2.2 (fun _ => True)) (by decide))
     go_simp
     refine HOF.out.mono ?_
     rintro e wF hof
     obtain ⟨hk, hof2⟩ := hof.out
     rcases hof2 with ⟨c, hc0, _, hwhy⟩ | ⟨_, rv, lv, pv, fv, ov, gv, lk, qv, bv, av, R, Lk, rfl, hu⟩
     ·exfalso
      rcases hwhy with ⟨_, h2⟩ | ⟨_, R, Lk, h1, h2, h3⟩
      ·rw [ask21] at h2; cases h2
      ·obtain ⟨rfl, rfl⟩ := OnWay.one h1 way21 h2 shut21
       rcases h3 with ⟨_, h4⟩ | ⟨_, _, h4⟩
       ·rw [uN21] at h4; cases h4
       ·rw [fr21, uB21] at h4
        rcases h4 with h4 | h4 <;> exact absurd h4 (by decide)
     obtain ⟨rfl, rfl⟩ := OnWay.one hu.V.way way21 hu.V.shut shut21
     obtain ⟨ro, rc, hrv, _⟩ := id hu.V.rR.reads
     obtain ⟨lo, lc, hlv, _⟩ := id hu.V.rL.reads
     obtain ⟨po, pc, hpv, _⟩ := id hu.V.rP.reads
     obtain ⟨fo, fc, hfv, _⟩ := id hu.V.rF.reads
     obtain ⟨oo, oc, hov, _⟩ := id hu.V.rO.reads
     obtain ⟨go, gc, hgv, _⟩ := id hu.V.rG.reads
     have huP := hu.P
     have huB := hu.B
     rw [uP21] at huP
     rw [uB21] at huB
     obtain ⟨qo, qc, hqv, _⟩ := id huP.reads
     obtain ⟨bo, bc, hbv, _⟩ := id huB.reads
     obtain ⟨zo, zc, hzv, _⟩ := id hu.A.1.1
     obtain ⟨rn, hrn⟩ : ∃ n : Nat, rv = .slice ro n rc := ⟨_, hrv⟩
     obtain ⟨ln, hln⟩ : ∃ n : Nat, lv = .slice lo n lc := ⟨_, hlv⟩
     obtain ⟨pn, hpn⟩ : ∃ n : Nat, pv = .slice po n pc := ⟨_, hpv⟩
     obtain ⟨fn', hfn⟩ : ∃ n : Nat, fv = .slice fo n fc := ⟨_, hfv⟩
     obtain ⟨on', hon⟩ : ∃ n : Nat, ov = .slice oo n oc := ⟨_, hov⟩
     obtain ⟨gn, hgn⟩ : ∃ n : Nat, gv = .slice go n gc := ⟨_, hgv⟩
     obtain ⟨zn, hzn⟩ : ∃ n : Nat, av = .slice zo n zc := ⟨_, hzv⟩
     obtain rfl : qv = .slice qo 3 qc := hqv
     obtain rfl : bv = .slice bo 4 bc := hbv
     subst hrn hln hpn hfn hon hgn hzn
     have HVF := Lib.hid hu.V.rF
     have HVB := Lib.hid huB
     have HVP := Lib.hid huP
     have HVA : Hid (RdX stmE wF (.slice zo zn zc) (uBase p20.1 r21 []) (fun k => k ≠ ub)) := hu.A.into (Keeps.refl (fun _ => False) _) (fun _ _ _ z => z) (fun k _ h2 => by have h2 : wZ.heap.size ≤ k := h2; have := lt_of_heap HZB.out; omega)
     replace HZB := Lib.hid ((hk.block _ (lt_of_heap HZB.out) (fun x => x)).trans HZB.out)
     replace HKX42 := Lib.hid (HKX42.out.trans hk)
     clear hk hu hof huP huB hrv hlv hpv hfv hov hgv hzv HOF
     go_simp
     refine hK.out _ _ (HMK42.out _ HKX42.out) fun hHeld => ?_
     clear hK KK
     refine tk 5 rfl hHeld ?_
     refine tk 6 rfl hHeld ?_
     (try simp only [nz])
     refine tk 7 rfl hHeld ?_
     (try simp only [nz])
     refine on1 9 rfl fun KK hK => ?_
     have h10 := set10 HZB.out (u0 := .slice ro rn rc) (u1 := .slice lo ln lc) (u2 := .slice po pn pc) (u3 := .slice fo fn' fc) (u4 := .slice oo on' oc) (u5 := .slice go gn gc) (u6 := .bool lk) (u7 := .slice qo 3 qc) (u8 := .slice bo 4 bc) (u9 := .slice zo zn zc)
     obtain ⟨v0, f0, v1, f1, v2, f2, v3, f3, v4, f4, v5, f5, v6, f6, v7, f7, v8, f8, v9, f9⟩ := cf10 HZB.out
     replace HKX42 := Lib.hid (HKX42.out.trans_new h10.2 (fun q hq e => by have e : q = ub := e; have := HZL.out; omega))
     have HN : Hid (KF W ((((((((((wF.setCell ⟨ub, 0, none⟩ (.slice ro rn rc)).setCell ⟨ub, 1, none⟩ (.slice lo ln lc)).setCell ⟨ub, 2, none⟩ (.slice po pn pc)).setCell ⟨ub, 3, none⟩ (.slice fo fn' fc)).setCell ⟨ub, 4, none⟩ (.slice oo on' oc)).setCell ⟨ub, 5, none⟩ (.slice go gn gc)).setCell ⟨ub, 6, none⟩ (.bool lk)).setCell ⟨ub, 7, none⟩ (.slice qo 3 qc)).setCell ⟨ub, 8, none⟩ (.slice bo 4 bc)).setCell ⟨ub, 9, none⟩ (.slice zo zn zc)) ∧ ((((((((((wF.setCell ⟨ub, 0, none⟩ (.slice ro rn rc)).setCell ⟨ub, 1, none⟩ (.slice lo ln lc)).setCell ⟨ub, 2, none⟩ (.slice po pn pc)).setCell ⟨ub, 3, none⟩ (.slice fo fn' fc)).setCell ⟨ub, 4, none⟩ (.slice oo on' oc)).setCell ⟨ub, 5, none⟩ (.slice go gn gc)).setCell ⟨ub, 6, none⟩ (.bool lk)).setCell ⟨ub, 7, none⟩ (.slice qo 3 qc)).setCell ⟨ub, 8, none⟩ (.slice bo 4 bc)).setCell ⟨ub, 9, none⟩ (.slice zo zn zc)).heap[ub]? = some (.cells #[.slice ro rn rc, .slice lo ln lc, .slice po pn pc, .slice fo fn' fc, .slice oo on' oc, .slice go gn gc, .bool lk, .slice qo 3 qc, .slice bo 4 bc, .slice zo zn zc] 54) ∧ SrcK stmE ((((((((((wF.setCell ⟨ub, 0, none⟩ (.slice ro rn rc)).setCell ⟨ub, 1, none⟩ (.slice lo ln lc)).setCell ⟨ub, 2, none⟩ (.slice po pn pc)).setCell ⟨ub, 3, none⟩ (.slice fo fn' fc)).setCell ⟨ub, 4, none⟩ (.slice oo on' oc)).setCell ⟨ub, 5, none⟩ (.slice go gn gc)).setCell ⟨ub, 6, none⟩ (.bool lk)).setCell ⟨ub, 7, none⟩ (.slice qo 3 qc)).setCell ⟨ub, 8, none⟩ (.slice bo 4 bc)).setCell ⟨ub, 9, none⟩ (.slice zo zn zc)) (.slice zo zn zc) (uBase p20.1 r21 []) ∧ SrcK stmE ((((((((((wF.setCell ⟨ub, 0, none⟩ (.slice ro rn rc)).setCell ⟨ub, 1, none⟩ (.slice lo ln lc)).setCell ⟨ub, 2, none⟩ (.slice po pn pc)).setCell ⟨ub, 3, none⟩ (.slice fo fn' fc)).setCell ⟨ub, 4, none⟩ (.slice oo on' oc)).setCell ⟨ub, 5, none⟩ (.slice go gn gc)).setCell ⟨ub, 6, none⟩ (.bool lk)).setCell ⟨ub, 7, none⟩ (.slice qo 3 qc)).setCell ⟨ub, 8, none⟩ (.slice bo 4 bc)).setCell ⟨ub, 9, none⟩ (.slice zo zn zc)) (.slice fo fn' fc) (fixV p20.2.1 p20.2.2.1 p20.1 r21 []) ∧ RdK stmE ((((((((((wF.setCell ⟨ub, 0, none⟩ (.slice ro rn rc)).setCell ⟨ub, 1, none⟩ (.slice lo ln lc)).setCell ⟨ub, 2, none⟩ (.slice po pn pc)).setCell ⟨ub, 3, none⟩ (.slice fo fn' fc)).setCell ⟨ub, 4, none⟩ (.slice oo on' oc)).setCell ⟨ub, 5, none⟩ (.slice go gn gc)).setCell ⟨ub, 6, none⟩ (.bool lk)).setCell ⟨ub, 7, none⟩ (.slice qo 3 qc)).setCell ⟨ub, 8, none⟩ (.slice bo 4 bc)).setCell ⟨ub, 9, none⟩ (.slice zo zn zc)) (.slice bo 4 bc) b21 ∧ ReadsS ((((((((((wF.setCell ⟨ub, 0, none⟩ (.slice ro rn rc)).setCell ⟨ub, 1, none⟩ (.slice lo ln lc)).setCell ⟨ub, 2, none⟩ (.slice po pn pc)).setCell ⟨ub, 3, none⟩ (.slice fo fn' fc)).setCell ⟨ub, 4, none⟩ (.slice oo on' oc)).setCell ⟨ub, 5, none⟩ (.slice go gn gc)).setCell ⟨ub, 6, none⟩ (.bool lk)).setCell ⟨ub, 7, none⟩ (.slice qo 3 qc)).setCell ⟨ub, 8, none⟩ (.slice bo 4 bc)).setCell ⟨ub, 9, none⟩ (.slice zo zn zc)) (.slice qo 3 qc) [[65], [66], [88, 49]]) := ⟨HK6.out.trans HKX42.out, h10.1, (HVA.out.into h10.2 (fun q _ hp e => hp e) (fun _ _ _ => trivial) (P' := fun _ => True)).1, (own_off HVF.out HZB.out (by show 54 ≠ 38; decide) h10.2).src, (own_off HVB.out HZB.out (by show 54 ≠ 38; decide) h10.2).reads, (ownK_str.1 (own_off HVP.out HZB.out (by show 54 ≠ 9; decide) h10.2)).reads⟩
     clear h10 HZB HVA HVF HVB HVP HZL
     go_simp
     refine hK.out _ _ (HMK42.out _ HKX42.out) fun hHeld => ?_
     clear hK KK
     (try simp only [nz])
     clear v0 f0 v1 f1 v2 f2 v3 f3 v4 f4 v5 f5 v6 f6 v7 f7 v8 f8 v9 f9
     generalize ((((((((((wF.setCell ⟨ub, 0, none⟩ (.slice ro rn rc)).setCell ⟨ub, 1, none⟩ (.slice lo ln lc)).setCell ⟨ub, 2, none⟩ (.slice po pn pc)).setCell ⟨ub, 3, none⟩ (.slice fo fn' fc)).setCell ⟨ub, 4, none⟩ (.slice oo on' oc)).setCell ⟨ub, 5, none⟩ (.slice go gn gc)).setCell ⟨ub, 6, none⟩ (.bool lk)).setCell ⟨ub, 7, none⟩ (.slice qo 3 qc)).setCell ⟨ub, 8, none⟩ (.slice bo 4 bc)).setCell ⟨ub, 9, none⟩ (.slice zo zn zc)) = w9 at *
     refine on1 10 rfl fun KK hK => ?_
     go_simp
     refine hK.out _ _ (HMK42.out _ HKX42.out) fun hHeld => ?_
     clear hK KK
     (try simp only [nz])
     refine wpAnyH_done (by kernel_rfl) ?_ _
     refine NoPanic.normal ?_
     clear hHeld HMK42
     clear HKX42
     go_wp2_with fail
     go_meet
     exact ⟨_, _, _, _, _, _, _, _, _, _, _, _, _, _, _, _, _, _, _, _, _, _, _, _, _, _, _, rfl, rfl, HN⟩
   case pB46 =>
    have hkE : KF wR1 (wR1.alloc (.cells #[.slice none 0 0, .slice none 0 0, .slice none 0 0, .slice none 0 0, .slice none 0 0, .slice none 0 0, .bool false, .slice none 0 0, .slice none 0 0, .slice none 0 0] 54)) := (Keeps.refl _ _).alloc _
    have HZB : Hid ((wR1.alloc (.cells #[.slice none 0 0, .slice none 0 0, .slice none 0 0, .slice none 0 0, .slice none 0 0, .slice none 0 0, .bool false, .slice none 0 0, .slice none 0 0, .slice none 0 0] 54)).heap[wR1.heap.size]? = some (.cells #[.slice none 0 0, .slice none 0 0, .slice none 0 0, .slice none 0 0, .slice none 0 0, .slice none 0 0, .bool false, .slice none 0 0, .slice none 0 0, .slice none 0 0] 54)) := (MapKept.heap_alloc wR1 (.cells #[.slice none 0 0, .slice none 0 0, .slice none 0 0, .slice none 0 0, .slice none 0 0, .slice none 0 0, .bool false, .slice none 0 0, .slice none 0 0, .slice none 0 0] 54)).1
    have HZL : Hid (w6.heap.size ≤ wR1.heap.size) := HKX42.out.size
    replace HKX42 := Lib.hid (HKX42.out.trans hkE)
    clear hkE
    go_simp
    refine hK.out _ _ (HMK42.out _ HKX42.out) fun hHeld => ?_
    clear hK KK
    (try simp only [nz])
    generalize (wR1.alloc (.cells #[.slice none 0 0, .slice none 0 0, .slice none 0 0, .slice none 0 0, .slice none 0 0, .slice none 0 0, .bool false, .slice none 0 0, .slice none 0 0, .slice none 0 0] 54)) = wZ at *
    obtain ⟨ub, hub⟩ : ∃ vb, wR1.heap.size = vb := ⟨_, rfl⟩
    (try simp only [hub])
    (try simp only [hub] at HZB HZL)
    clear hub
    refine on1 2 rfl fun KK hK => ?_
    go_simp
    refine (HRO.out _ _ _).mono ?_
    rintro e wR2 ⟨rfl, hk⟩
    replace HZB := Lib.hid ((hk.out.block _ (lt_of_heap HZB.out) (fun x => x)).trans HZB.out)
    replace HKX42 := Lib.hid (HKX42.out.trans hk.out)
    clear hk
    go_simp
    refine hK.out _ _ (HMK42.out _ HKX42.out) fun hHeld => ?_
    clear hK KK
    refine tk 3 rfl hHeld ?_
    (try simp only [nz])
    refine on1 4 rfl fun KK hK => ?_
    have HOF := Lib.hid (uof_spec (HH.out.into HKX42.out (fun _ _ _ x => x) (fun _ _ x => x)) (jo := none) (jn := 0) (jc := 0) (q := q21) (by decide) (by decide) (by decide) (⟨⟨none, 0, rfl, Nat.le_refl _, fun h => absurd h (by simp [q21])⟩, fun k hk => by simp [Value.ownBlock] at hk⟩ : RowX wR2 (.slice none 0 0) q21.2.2.2 (fun _ => True)) (by decide))
    go_simp
    refine HOF.out.mono ?_
    rintro e wF hof
    obtain ⟨hk, hof2⟩ := hof.out
    rcases hof2 with ⟨c, hc0, _, hwhy⟩ | ⟨_, rv, lv, pv, fv, ov, gv, lk, qv, bv, av, R, Lk, rfl, hu⟩
    ·exfalso
     rcases hwhy with ⟨_, h2⟩ | ⟨_, R, Lk, h1, h2, h3⟩
     ·rw [ask21] at h2; cases h2
     ·obtain ⟨rfl, rfl⟩ := OnWay.one h1 way21 h2 shut21
      rcases h3 with ⟨_, h4⟩ | ⟨_, _, h4⟩
      ·rw [uN21] at h4; cases h4
      ·rw [fr21, uB21] at h4
       rcases h4 with h4 | h4 <;> exact absurd h4 (by decide)
    obtain ⟨rfl, rfl⟩ := OnWay.one hu.V.way way21 hu.V.shut shut21
    obtain ⟨ro, rc, hrv, _⟩ := id hu.V.rR.reads
    obtain ⟨lo, lc, hlv, _⟩ := id hu.V.rL.reads
    obtain ⟨po, pc, hpv, _⟩ := id hu.V.rP.reads
    obtain ⟨fo, fc, hfv, _⟩ := id hu.V.rF.reads
    obtain ⟨oo, oc, hov, _⟩ := id hu.V.rO.reads
    obtain ⟨go, gc, hgv, _⟩ := id hu.V.rG.reads
    have huP := hu.P
    have huB := hu.B
    rw [uP21] at huP
    rw [uB21] at huB
    obtain ⟨qo, qc, hqv, _⟩ := id huP.reads
    obtain ⟨bo, bc, hbv, _⟩ := id huB.reads
    obtain ⟨zo, zc, hzv, _⟩ := id hu.A.1.1
    obtain ⟨rn, hrn⟩ : ∃ n : Nat, rv = .slice ro n rc := ⟨_, hrv⟩
    obtain ⟨ln, hln⟩ : ∃ n : Nat, lv = .slice lo n lc := ⟨_, hlv⟩
    obtain ⟨pn, hpn⟩ : ∃ n : Nat, pv = .slice po n pc := ⟨_, hpv⟩
    obtain ⟨fn', hfn⟩ : ∃ n : Nat, fv = .slice fo n fc := ⟨_, hfv⟩
    obtain ⟨on', hon⟩ : ∃ n : Nat, ov = .slice oo n oc := ⟨_, hov⟩
    obtain ⟨gn, hgn⟩ : ∃ n : Nat, gv = .slice go n gc := ⟨_, hgv⟩
    obtain ⟨zn, hzn⟩ : ∃ n : Nat, av = .slice zo n zc := ⟨_, hzv⟩
    obtain rfl : qv = .slice qo 3 qc := hqv
    obtain rfl : bv = .slice bo 4 bc := hbv
    subst hrn hln hpn hfn hon hgn hzn
    have HVF := Lib.hid hu.V.rF
    have HVB := Lib.hid huB
    have HVP := Lib.hid huP
    have HVA : Hid (RdX stmE wF (.slice zo zn zc) (uBase p20.1 r21 []) (fun k => k ≠ ub)) := hu.A.into (Keeps.refl (fun _ => False) _) (fun _ _ _ z => z) (fun k _ h2 => by have h2 : wR2.heap.size ≤ k := h2; have := lt_of_heap HZB.out; omega)
    replace HZB := Lib.hid ((hk.block _ (lt_of_heap HZB.out) (fun x => x)).trans HZB.out)
    replace HKX42 := Lib.hid (HKX42.out.trans hk)
    clear hk hu hof huP huB hrv hlv hpv hfv hov hgv hzv HOF
    go_simp
    refine hK.out _ _ (HMK42.out _ HKX42.out) fun hHeld => ?_
    clear hK KK
    refine tk 5 rfl hHeld ?_
    refine tk 6 rfl hHeld ?_
    (try simp only [nz])
    refine tk 7 rfl hHeld ?_
    (try simp only [nz])
    refine on1 9 rfl fun KK hK => ?_
    have h10 := set10 HZB.out (u0 := .slice ro rn rc) (u1 := .slice lo ln lc) (u2 := .slice po pn pc) (u3 := .slice fo fn' fc) (u4 := .slice oo on' oc) (u5 := .slice go gn gc) (u6 := .bool lk) (u7 := .slice qo 3 qc) (u8 := .slice bo 4 bc) (u9 := .slice zo zn zc)
    obtain ⟨v0, f0, v1, f1, v2, f2, v3, f3, v4, f4, v5, f5, v6, f6, v7, f7, v8, f8, v9, f9⟩ := cf10 HZB.out
    replace HKX42 := Lib.hid (HKX42.out.trans_new h10.2 (fun q hq e => by have e : q = ub := e; have := HZL.out; omega))
    have HN : Hid (KF W ((((((((((wF.setCell ⟨ub, 0, none⟩ (.slice ro rn rc)).setCell ⟨ub, 1, none⟩ (.slice lo ln lc)).setCell ⟨ub, 2, none⟩ (.slice po pn pc)).setCell ⟨ub, 3, none⟩ (.slice fo fn' fc)).setCell ⟨ub, 4, none⟩ (.slice oo on' oc)).setCell ⟨ub, 5, none⟩ (.slice go gn gc)).setCell ⟨ub, 6, none⟩ (.bool lk)).setCell ⟨ub, 7, none⟩ (.slice qo 3 qc)).setCell ⟨ub, 8, none⟩ (.slice bo 4 bc)).setCell ⟨ub, 9, none⟩ (.slice zo zn zc)) ∧ ((((((((((wF.setCell ⟨ub, 0, none⟩ (.slice ro rn rc)).setCell ⟨ub, 1, none⟩ (.slice lo ln lc)).setCell ⟨ub, 2, none⟩ (.slice po pn pc)).setCell ⟨ub, 3, none⟩ (.slice fo fn' fc)).setCell ⟨ub, 4, none⟩ (.slice oo on' oc)).setCell ⟨ub, 5, none⟩ (.slice go gn gc)).setCell ⟨ub, 6, none⟩ (.bool lk)).setCell ⟨ub, 7, none⟩ (.slice qo 3 qc)).setCell ⟨ub, 8, none⟩ (.slice bo 4 bc)).setCell ⟨ub, 9, none⟩ (.slice zo zn zc)).heap[ub]? = some (.cells #[.slice ro rn rc, .slice lo ln lc, .slice po pn pc, .slice fo fn' fc, .slice oo on' oc, .slice go gn gc, .bool lk, .slice qo 3 qc, .slice bo 4 bc, .slice zo zn zc] 54) ∧ SrcK stmE ((((((((((wF.setCell ⟨ub, 0, none⟩ (.slice ro rn rc)).setCell ⟨ub, 1, none⟩ (.slice lo ln lc)).setCell ⟨ub, 2, none⟩ (.slice po pn pc)).setCell ⟨ub, 3, none⟩ (.slice fo fn' fc)).setCell ⟨ub, 4, none⟩ (.slice oo on' oc)).setCell ⟨ub, 5, none⟩ (.slice go gn gc)).setCell ⟨ub, 6, none⟩ (.bool lk)).setCell ⟨ub, 7, none⟩ (.slice qo 3 qc)).setCell ⟨ub, 8, none⟩ (.slice bo 4 bc)).setCell ⟨ub, 9, none⟩ (.slice zo zn zc)) (.slice zo zn zc) (uBase p20.1 r21 []) ∧ SrcK stmE ((((((((((wF.setCell ⟨ub, 0, none⟩ (.slice ro rn rc)).setCell ⟨ub, 1, none⟩ (.slice lo ln lc)).setCell ⟨ub, 2, none⟩ (.slice po pn pc)).setCell ⟨ub, 3, none⟩ (.slice fo fn' fc)).setCell ⟨ub, 4, none⟩ (.slice oo on' oc)).setCell ⟨ub, 5, none⟩ (.slice go gn gc)).setCell ⟨ub, 6, none⟩ (.bool lk)).setCell ⟨ub, 7, none⟩ (.slice qo 3 qc)).setCell ⟨ub, 8, none⟩ (.slice bo 4 bc)).setCell ⟨ub, 9, none⟩ (.slice zo zn zc)) (.slice fo fn' fc) (fixV p20.2.1 p20.2.2.1 p20.1 r21 []) ∧ RdK stmE ((((((((((wF.setCell ⟨ub, 0, none⟩ (.slice ro rn rc)).setCell ⟨ub, 1, none⟩ (.slice lo ln lc)).setCell ⟨ub, 2, none⟩ (.slice po pn pc)).setCell ⟨ub, 3, none⟩ (.slice fo fn' fc)).setCell ⟨ub, 4, none⟩ (.slice oo on' oc)).setCell ⟨ub, 5, none⟩ (.slice go gn gc)).setCell ⟨ub, 6, none⟩ (.bool lk)).setCell ⟨ub, 7, none⟩ (.slice qo 3 qc)).setCell ⟨ub, 8, none⟩ (.slice bo 4 bc)).setCell ⟨ub, 9, none⟩ (.slice zo zn zc)) (.slice bo 4 bc) b21 ∧ ReadsS ((((((((((wF.setCell ⟨ub, 0, none⟩ (.slice ro rn rc)).setCell ⟨ub, 1, none⟩ (.slice lo ln lc)).setCell ⟨ub, 2, none⟩ (.slice po pn pc)).setCell ⟨ub, 3, none⟩ (.slice fo fn' fc)).setCell ⟨ub, 4, none⟩ (.slice oo on' oc)).setCell ⟨ub, 5, none⟩ (.slice go gn gc)).setCell ⟨ub, 6, none⟩ (.bool lk)).setCell ⟨ub, 7, none⟩ (.slice qo 3 qc)).setCell ⟨ub, 8, none⟩ (.slice bo 4 bc)).setCell ⟨ub, 9, none⟩ (.slice zo zn zc)) (.slice qo 3 qc) [[65], [66], [88, 49]]) := ⟨HK6.out.trans HKX42.out, h10.1, (HVA.out.into h10.2 (fun q _ hp e => hp e) (fun _ _ _ => trivial) (P' := fun _ => True)).1, (own_off HVF.out HZB.out (by show 54 ≠ 38; decide) h10.2).src, (own_off HVB.out HZB.out (by show 54 ≠ 38; decide) h10.2).reads, (ownK_str.1 (own_off HVP.out HZB.out (by show 54 ≠ 9; decide) h10.2)).reads⟩
    clear h10 HZB HVA HVF HVB HVP HZL
    go_simp
    refine hK.out _ _ (HMK42.out _ HKX42.out) fun hHeld => ?_
    clear hK KK
    (try simp only [nz])
    clear v0 f0 v1 f1 v2 f2 v3 f3 v4 f4 v5 f5 v6 f6 v7 f7 v8 f8 v9 f9
    generalize ((((((((((wF.setCell ⟨ub, 0, none⟩ (.slice ro rn rc)).setCell ⟨ub, 1, none⟩ (.slice lo ln lc)).setCell ⟨ub, 2, none⟩ (.slice po pn pc)).setCell ⟨ub, 3, none⟩ (.slice fo fn' fc)).setCell ⟨ub, 4, none⟩ (.slice oo on' oc)).setCell ⟨ub, 5, none⟩ (.slice go gn gc)).setCell ⟨ub, 6, none⟩ (.bool lk)).setCell ⟨ub, 7, none⟩ (.slice qo 3 qc)).setCell ⟨ub, 8, none⟩ (.slice bo 4 bc)).setCell ⟨ub, 9, none⟩ (.slice zo zn zc)) = w9 at *
    refine on1 10 rfl fun KK hK => ?_
    go_simp
    refine hK.out _ _ (HMK42.out _ HKX42.out) fun hHeld => ?_
    clear hK KK
    (try simp only [nz])
    refine wpAnyH_done (by kernel_rfl) ?_ _
    refine NoPanic.normal ?_
    clear hHeld HMK42
    clear HKX42
    go_wp2_with fail
    go_meet
    exact ⟨_, _, _, _, _, _, _, _, _, _, _, _, _, _, _, _, _, _, _, _, _, _, _, _, _, _, _, rfl, rfl, HN⟩
  case pB44 =>
   have hkE : KF wA (wA.alloc (.cells #[.slice none 0 0, .slice none 0 0, .slice none 0 0, .slice none 0 0, .slice none 0 0, .slice none 0 0, .bool false, .slice none 0 0, .slice none 0 0, .slice none 0 0] 54)) := (Keeps.refl _ _).alloc _
   have HZB : Hid ((wA.alloc (.cells #[.slice none 0 0, .slice none 0 0, .slice none 0 0, .slice none 0 0, .slice none 0 0, .slice none 0 0, .bool false, .slice none 0 0, .slice none 0 0, .slice none 0 0] 54)).heap[wA.heap.size]? = some (.cells #[.slice none 0 0, .slice none 0 0, .slice none 0 0, .slice none 0 0, .slice none 0 0, .slice none 0 0, .bool false, .slice none 0 0, .slice none 0 0, .slice none 0 0] 54)) := (MapKept.heap_alloc wA (.cells #[.slice none 0 0, .slice none 0 0, .slice none 0 0, .slice none 0 0, .slice none 0 0, .slice none 0 0, .bool false, .slice none 0 0, .slice none 0 0, .slice none 0 0] 54)).1
   have HZL : Hid (w6.heap.size ≤ wA.heap.size) := HKX42.out.size
   replace HKX42 := Lib.hid (HKX42.out.trans hkE)
   clear hkE
   go_simp
   refine hK.out _ _ (HMK42.out _ HKX42.out) fun hHeld => ?_
   clear hK KK
   (try simp only [nz])
   generalize (wA.alloc (.cells #[.slice none 0 0, .slice none 0 0, .slice none 0 0, .slice none 0 0, .slice none 0 0, .slice none 0 0, .bool false, .slice none 0 0, .slice none 0 0, .slice none 0 0] 54)) = wZ at *
   obtain ⟨ub, hub⟩ : ∃ vb, wA.heap.size = vb := ⟨_, rfl⟩
   (try simp only [hub])
   (try simp only [hub] at HZB HZL)
   clear hub
   refine on1 1 rfl fun KK hK => ?_
   go_simp
   refine (HRO.out _ _ _).mono ?_
   rintro e wR1 ⟨rfl, hk⟩
   replace HZB := Lib.hid ((hk.out.block _ (lt_of_heap HZB.out) (fun x => x)).trans HZB.out)
   replace HKX42 := Lib.hid (HKX42.out.trans hk.out)
   clear hk
   go_simp
   refine hK.out _ _ (HMK42.out _ HKX42.out) fun hHeld => ?_
   clear hK KK
   (try simp only [nz])
   refine on1 2 rfl fun KK hK => ?_
   go_simp
   refine (HRO.out _ _ _).mono ?_
   rintro e wR2 ⟨rfl, hk⟩
   replace HZB := Lib.hid ((hk.out.block _ (lt_of_heap HZB.out) (fun x => x)).trans HZB.out)
   replace HKX42 := Lib.hid (HKX42.out.trans hk.out)
   clear hk
   go_simp
   refine hK.out _ _ (HMK42.out _ HKX42.out) fun hHeld => ?_
   clear hK KK
   refine tk 3 rfl hHeld ?_
   (try simp only [nz])
   refine on1 4 rfl fun KK hK => ?_
   have HOF := Lib.hid (uof_spec (HH.out.into HKX42.out (fun _ _ _ x => x) (fun _ _ x => x)) (jo := none) (jn := 0) (jc := 0) (q := q21) (by decide) (by decide) (by decide) (⟨⟨none, 0, rfl, Nat.le_refl _, fun h => absurd h (by simp [q21])⟩, fun k hk => by simp [Value.ownBlock] at hk⟩ : RowX wR2 (.slice none 0 0) q21.2.2.2 (fun _ => True)) (by decide))
   go_simp
   refine HOF.out.mono ?_
   rintro e wF hof
   obtain ⟨hk, hof2⟩ := hof.out
   rcases hof2 with ⟨c, hc0, _, hwhy⟩ | ⟨_, rv, lv, pv, fv, ov, gv, lk, qv, bv, av, R, Lk, rfl, hu⟩
   ·exfalso
    rcases hwhy with ⟨_, h2⟩ | ⟨_, R, Lk, h1, h2, h3⟩
    ·rw [ask21] at h2; cases h2
    ·obtain ⟨rfl, rfl⟩ := OnWay.one h1 way21 h2 shut21
     rcases h3 with ⟨_, h4⟩ | ⟨_, _, h4⟩
     ·rw [uN21] at h4; cases h4
     ·rw [fr21, uB21] at h4
      rcases h4 with h4 | h4 <;> exact absurd h4 (by decide)
   obtain ⟨rfl, rfl⟩ := OnWay.one hu.V.way way21 hu.V.shut shut21
   obtain ⟨ro, rc, hrv, _⟩ := id hu.V.rR.reads
   obtain ⟨lo, lc, hlv, _⟩ := id hu.V.rL.reads
   obtain ⟨po, pc, hpv, _⟩ := id hu.V.rP.reads
   obtain ⟨fo, fc, hfv, _⟩ := id hu.V.rF.reads
   obtain ⟨oo, oc, hov, _⟩ := id hu.V.rO.reads
   obtain ⟨go, gc, hgv, _⟩ := id hu.V.rG.reads
   have huP := hu.P
   have huB := hu.B
   rw [uP21] at huP
   rw [uB21] at huB
   obtain ⟨qo, qc, hqv, _⟩ := id huP.reads
   obtain ⟨bo, bc, hbv, _⟩ := id huB.reads
   obtain ⟨zo, zc, hzv, _⟩ := id hu.A.1.1
   obtain ⟨rn, hrn⟩ : ∃ n : Nat, rv = .slice ro n rc := ⟨_, hrv⟩
   obtain ⟨ln, hln⟩ : ∃ n : Nat, lv = .slice lo n lc := ⟨_, hlv⟩
   obtain ⟨pn, hpn⟩ : ∃ n : Nat, pv = .slice po n pc := ⟨_, hpv⟩
   obtain ⟨fn', hfn⟩ : ∃ n : Nat, fv = .slice fo n fc := ⟨_, hfv⟩
   obtain ⟨on', hon⟩ : ∃ n : Nat, ov = .slice oo n oc := ⟨_, hov⟩
   obtain ⟨gn, hgn⟩ : ∃ n : Nat, gv = .slice go n gc := ⟨_, hgv⟩
   obtain ⟨zn, hzn⟩ : ∃ n : Nat, av = .slice zo n zc := ⟨_, hzv⟩
   obtain rfl : qv = .slice qo 3 qc := hqv
   obtain rfl : bv = .slice bo 4 bc := hbv
   subst hrn hln hpn hfn hon hgn hzn
   have HVF := Lib.hid hu.V.rF
   have HVB := Lib.hid huB
   have HVP := Lib.hid huP
   have HVA : Hid (RdX stmE wF (.slice zo zn zc) (uBase p20.1 r21 []) (fun k => k ≠ ub)) := hu.A.into (Keeps.refl (fun _ => False) _) (fun _ _ _ z => z) (fun k _ h2 => by have h2 : wR2.heap.size ≤ k := h2; have := lt_of_heap HZB.out; omega)
   replace HZB := Lib.hid ((hk.block _ (lt_of_heap HZB.out) (fun x => x)).trans HZB.out)
   replace HKX42 := Lib.hid (HKX42.out.trans hk)
   clear hk hu hof huP huB hrv hlv hpv hfv hov hgv hzv HOF
   go_simp
   refine hK.out _ _ (HMK42.out _ HKX42.out) fun hHeld => ?_
   clear hK KK
   refine tk 5 rfl hHeld ?_
   refine tk 6 rfl hHeld ?_
   (try simp only [nz])
   refine tk 7 rfl hHeld ?_
   (try simp only [nz])
   refine on1 9 rfl fun KK hK => ?_
   have h10 := set10 HZB.out (u0 := .slice ro rn rc) (u1 := .slice lo ln lc) (u2 := .slice po pn pc) (u3 := .slice fo fn' fc) (u4 := .slice oo on' oc) (u5 := .slice go gn gc) (u6 := .bool lk) (u7 := .slice qo 3 qc) (u8 := .slice bo 4 bc) (u9 := .slice zo zn zc)
   obtain ⟨v0, f0, v1, f1, v2, f2, v3, f3, v4, f4, v5, f5, v6, f6, v7, f7, v8, f8, v9, f9⟩ := cf10 HZB.out
   replace HKX42 := Lib.hid (HKX42.out.trans_new h10.2 (fun q hq e => by have e : q = ub := e; have := HZL.out; omega))
   have HN : Hid (KF W ((((((((((wF.setCell ⟨ub, 0, none⟩ (.slice ro rn rc)).setCell ⟨ub, 1, none⟩ (.slice lo ln lc)).setCell ⟨ub, 2, none⟩ (.slice po pn pc)).setCell ⟨ub, 3, none⟩ (.slice fo fn' fc)).setCell ⟨ub, 4, none⟩ (.slice oo on' oc)).setCell ⟨ub, 5, none⟩ (.slice go gn gc)).setCell ⟨ub, 6, none⟩ (.bool lk)).setCell ⟨ub, 7, none⟩ (.slice qo 3 qc)).setCell ⟨ub, 8, none⟩ (.slice bo 4 bc)).setCell ⟨ub, 9, none⟩ (.slice zo zn zc)) ∧ ((((((((((wF.setCell ⟨ub, 0, none⟩ (.slice ro rn rc)).setCell ⟨ub, 1, none⟩ (.slice lo ln lc)).setCell ⟨ub, 2, none⟩ (.slice po pn pc)).setCell ⟨ub, 3, none⟩ (.slice fo fn' fc)).setCell ⟨ub, 4, none⟩ (.slice oo on' oc)).setCell ⟨ub, 5, none⟩ (.slice go gn gc)).setCell ⟨ub, 6, none⟩ (.bool lk)).setCell ⟨ub, 7, none⟩ (.slice qo 3 qc)).setCell ⟨ub, 8, none⟩ (.slice bo 4 bc)).setCell ⟨ub, 9, none⟩ (.slice zo zn zc)).heap[ub]? = some (.cells #[.slice ro rn rc, .slice lo ln lc, .slice po pn pc, .slice fo fn' fc, .slice oo on' oc, .slice go gn gc, .bool lk, .slice qo 3 qc, .slice bo 4 bc, .slice zo zn zc] 54) ∧ SrcK stmE ((((((((((wF.setCell ⟨ub, 0, none⟩ (.slice ro rn rc)).setCell ⟨ub, 1, none⟩ (.slice lo ln lc)).setCell ⟨ub, 2, none⟩ (.slice po pn pc)).setCell ⟨ub, 3, none⟩ (.slice fo fn' fc)).setCell ⟨ub, 4, none⟩ (.slice oo on' oc)).setCell ⟨ub, 5, none⟩ (.slice go gn gc)).setCell ⟨ub, 6, none⟩ (.bool lk)).setCell ⟨ub, 7, none⟩ (.slice qo 3 qc)).setCell ⟨ub, 8, none⟩ (.slice bo 4 bc)).setCell ⟨ub, 9, none⟩ (.slice zo zn zc)) (.slice zo zn zc) (uBase p20.1 r21 []) ∧ SrcK stmE ((((((((((wF.setCell ⟨ub, 0, none⟩ (.slice ro rn rc)).setCell ⟨ub, 1, none⟩ (.slice lo ln lc)).setCell ⟨ub, 2, none⟩ (.slice po pn pc)).setCell ⟨ub, 3, none⟩ (.slice fo fn' fc)).setCell ⟨ub, 4, none⟩ (.slice oo on' oc)).setCell ⟨ub, 5, none⟩ (.slice go gn gc)).setCell ⟨ub, 6, none⟩ (.bool lk)).setCell ⟨ub, 7, none⟩ (.slice qo 3 qc)).setCell ⟨ub, 8, none⟩ (.slice bo 4 bc)).setCell ⟨ub, 9, none⟩ (.slice zo zn zc)) (.slice fo fn' fc) (fixV p20.2.1 p20.2.2.1 p20.1 r21 []) ∧ RdK stmE ((((((((((wF.setCell ⟨ub, 0, none⟩ (.slice ro rn rc)).setCell ⟨ub, 1, none⟩ (.slice lo ln lc)).setCell ⟨ub, 2, none⟩ (.slice po pn pc)).setCell ⟨ub, 3, none⟩ (.slice fo fn' fc)).setCell ⟨ub, 4, none⟩ (.slice oo on' oc)).setCell ⟨ub, 5, none⟩ (.slice go gn gc)).setCell ⟨ub, 6, none⟩ (.bool lk)).setCell ⟨ub, 7, none⟩ (.slice qo 3 qc)).setCell ⟨ub, 8, none⟩ (.slice bo 4 bc)).setCell ⟨ub, 9, none⟩ (.slice zo zn zc)) (.slice bo 4 bc) b21 ∧ ReadsS ((((((((((wF.setCell ⟨ub, 0, none⟩ (.slice ro rn rc)).setCell ⟨ub, 1, none⟩ (.slice lo ln lc)).setCell ⟨ub, 2, none⟩ (.slice po pn pc)).setCell ⟨ub, 3, none⟩ (.slice fo fn' fc)).setCell ⟨ub, 4, none⟩ (.slice oo on' oc)).setCell ⟨ub, 5, none⟩ (.slice go gn gc)).setCell ⟨ub, 6, none⟩ (.bool lk)).setCell ⟨ub, 7, none⟩ (.slice qo 3 qc)).setCell ⟨ub, 8, none⟩ (.slice bo 4 bc)).setCell ⟨ub, 9, none⟩ (.slice zo zn zc)) (.slice qo 3 qc) [[65], [66], [88, 49]]) := ⟨HK6.out.trans HKX42.out, h10.1, (HVA.out.into h10.2 (fun q _ hp e => hp e) (fun _ _ _ => trivial) (P' := fun _ => True)).1, (own_off HVF.out HZB.out (by show 54 ≠ 38; decide) h10.2).src, (own_off HVB.out HZB.out (by show 54 ≠ 38; decide) h10.2).reads, (ownK_str.1 (own_off HVP.out HZB.out (by show 54 ≠ 9; decide) h10.2)).reads⟩
   clear h10 HZB HVA HVF HVB HVP HZL
   go_simp
   refine hK.out _ _ (HMK42.out _ HKX42.out) fun hHeld => ?_
   clear hK KK
   (try simp only [nz])
   clear v0 f0 v1 f1 v2 f2 v3 f3 v4 f4 v5 f5 v6 f6 v7 f7 v8 f8 v9 f9
   generalize ((((((((((wF.setCell ⟨ub, 0, none⟩ (.slice ro rn rc)).setCell ⟨ub, 1, none⟩ (.slice lo ln lc)).setCell ⟨ub, 2, none⟩ (.slice po pn pc)).setCell ⟨ub, 3, none⟩ (.slice fo fn' fc)).setCell ⟨ub, 4, none⟩ (.slice oo on' oc)).setCell ⟨ub, 5, none⟩ (.slice go gn gc)).setCell ⟨ub, 6, none⟩ (.bool lk)).setCell ⟨ub, 7, none⟩ (.slice qo 3 qc)).setCell ⟨ub, 8, none⟩ (.slice bo 4 bc)).setCell ⟨ub, 9, none⟩ (.slice zo zn zc)) = w9 at *
   refine on1 10 rfl fun KK hK => ?_
   go_simp
   refine hK.out _ _ (HMK42.out _ HKX42.out) fun hHeld => ?_
   clear hK KK
   (try simp only [nz])
   refine wpAnyH_done (by kernel_rfl) ?_ _
   refine NoPanic.normal ?_
   clear hHeld HMK42
   clear HKX42
   go_wp2_with fail
   go_meet
   exact ⟨_, _, _, _, _, _, _, _, _, _, _, _, _, _, _, _, _, _, _, _, _, _, _, _, _, _, _, rfl, rfl, HN⟩
 case rest =>
  obtain ⟨ro, lo, po, fo, oo, go, qo, bo, zo, rn, rc, ln, lc, pn, pc, fn', fc, on', oc, gn, gc, qc, bc, zn, zc, lk, ub, rfl, rfl, HN⟩ := hcut
  clear HK6 HP HH HRO
  have HK := Lib.hid HN.out.1
  have HU := Lib.hid HN.out.2.1
  have HR := Lib.hid HN.out.2.2
  clear HN
  obtain ⟨v0, f0, v1, f1, v2, f2, v3, f3, v4, f4, v5, f5, v6, f6, v7, f7, v8, f8, v9, f9⟩ := cf10 HU.out
  clear f0 f1 f2 f3 f4 f5 f6 f7 f8 f9
  have hkA : KF wc (wc.alloc (.cells #[.string ⟨#[65]⟩, .string ⟨#[66]⟩, .string ⟨#[88, 49]⟩] 9)) := (Keeps.refl _ _).alloc _
  have HSA := Lib.hid (ref_same (HR.out.2.2.2.keeps hkA) (reads_lit wc [[65], [66], [88, 49]] #[.string ⟨#[65]⟩, .string ⟨#[66]⟩, .string ⟨#[88, 49]⟩] rfl) (by decide) rfl)
  have HKA : Hid (KF wc (wc.alloc (.cells #[.string ⟨#[65]⟩, .string ⟨#[66]⟩, .string ⟨#[88, 49]⟩] 9))) := hkA
  have HUA := Lib.hid ((hkA.block _ (lt_of_heap HU.out) (fun x => x)).trans HU.out)
  clear hkA
  go_wp2_with fail
  refine HSA.out.mono ?_
  rintro e w2 ⟨rfl, nq, hq⟩
  have HK2 : Hid (KF wc w2) := HKA.out.trans (by rw [hq]; exact (Keeps.refl _ _).drewN nq)
  have HU2 := Lib.hid ((HK2.out.block _ (lt_of_heap HU.out) (fun x => x)).trans HU.out)
  clear hq HSA HKA HUA v0 v1 v2 v3 v4 v5 v6 v7 v8 v9
  obtain ⟨v0, f0, v1, f1, v2, f2, v3, f3, v4, f4, v5, f5, v6, f6, v7, f7, v8, f8, v9, f9⟩ := cf10 HU2.out
  clear f0 f1 f2 f3 f4 f5 f6 f7 f8 f9
  have HST := Lib.hid (ustate_spec (ro := ro) (rn := rn) (rc := rc) (lo := lo) (ln := ln) (lc := lc) (po := po) (pn := pn) (pc := pc) (oo := oo) (on := on') (oc := oc) (so := go) (sn := gn) (sc := gc) (lk := lk) (qo := qo) (qn := 3) (qc := qc) (HR.out.1.keeps HK2.out) (HR.out.2.1.keeps HK2.out) (HR.out.2.2.1.keeps HK2.out) (by decide +kernel) (by decide +kernel) (by decide +kernel) 1 (by decide))
  rw [uSt21] at HST
  go_wp2_with fail
  refine HST.out.mono ?_
  rintro e w3 ⟨sv, rfl, hs⟩
  obtain ⟨so, sc, hsv, _⟩ := id hs.out.2.reads
  obtain rfl : sv = .slice so 1 sc := hsv
  have HE : Hid (KF W w3) := HK.out.trans (HK2.out.trans hs.out.1)
  clear HST hs v0 v1 v2 v3 v4 v5 v6 v7 v8 v9
  go_wp2_with fail
  go_ret
  exact ⟨rfl, HE⟩
end Go.Proofs.YtckikkkdabpjkaaGreat
