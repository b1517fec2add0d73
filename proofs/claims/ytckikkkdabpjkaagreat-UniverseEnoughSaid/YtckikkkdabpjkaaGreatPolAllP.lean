/-
 The program's Right of any policy.
-/
import Derived.Test.YtckikkkdabpjkaaGreatKitSq
import Derived.Test.YtckikkkdabpjkaaGreatPolSorted
import Derived.Test.YtckikkkdabpjkaaGreatML
set_option linter.unusedVariables false
set_option linter.unusedSimpArgs false
set_option linter.unnecessarySimpa false
namespace Go.Proofs.YtckikkkdabpjkaaGreat
open Go.ChangeShapes Go.WideShapes Go.ChangeAt Go.RowKit Go.Deep
theorem polRB_rows (p : Pol) : polRB p = (rowOk stmRB stmLt p.1 && (rowOk roleB rolLt p.2.1 && (rowOk roleB rolLt p.2.2.1 && (p.2.2.2.all qryRB && fitsPB p)))) := by
 unfold polRB rowOk
 rw [List.all_append]
 generalize p.1.all stmRB = a
 generalize p.2.1.all roleB = b
 generalize p.2.2.1.all roleB = c
 generalize p.2.2.2.all qryRB = d
 generalize decide (p.1 = sortO stmLt p.1) = e
 generalize decide (p.2.1 = sortO rolLt p.2.1) = f
 generalize decide (p.2.2.1 = sortO rolLt p.2.2.1) = g
 generalize fitsPB p = h
 cases a <;> cases b <;> cases c <;> cases d <;> cases e <;> cases f <;> cases g <;> cases h <;> rfl
theorem all_no2 {α : Type} {p : α → Bool} {l : List α} {i : Nat} {y : α} (hy : l[i]? = some y) (h : p y = false) : l.all p = false := by
 rw [Bool.eq_false_iff]
 intro q
 have := List.all_eq_true.1 q y (List.mem_of_getElem? hy)
 rw [h] at this
 cases this
set_option maxRecDepth 100000
set_option maxHeartbeats 3200000
theorem badq_spec {W : World} {v : Value} {q : Qry} (hv : ReadsS W v q.2.2.2) (hl : q.2.2.2.length ≤ 1000000) : Calls Tryz.prog 160 #[qryV q v] W fun e W' => e = .returned (.bool (!qryRB q)) ∧ Hid (KF W W') := by
 obtain ⟨k, ⟨a1, a2⟩, ⟨b1, b2⟩, wl⟩ := q
 simp only at hv hl
 obtain ⟨ao, cap, rfl, hle, hrd⟩ := id hv
 have hal := (MapKept.heap_alloc W (.cells #[.int .i64 k, .string ⟨a1.toArray⟩, .string ⟨a2.toArray⟩, .string ⟨b1.toArray⟩, .string ⟨b2.toArray⟩, .slice ao wl.length cap] 31)).1
 obtain ⟨WA, hWA⟩ : ∃ q, W.alloc (.cells #[.int .i64 k, .string ⟨a1.toArray⟩, .string ⟨a2.toArray⟩, .string ⟨b1.toArray⟩, .string ⟨b2.toArray⟩, .slice ao wl.length cap] 31) = q := ⟨_, rfl⟩
 have hk : KF W WA := by rw [← hWA]; exact (Keeps.refl _ _).alloc _
 rw [hWA] at hal
 obtain ⟨c0, f0, c1, f1, c2, f2, c3, f3, c4, f4, c5, f5⟩ := cf6 hal
 have HK := Lib.hid hk
 have HC := Lib.hid (sqryright_all (q := (k, (a1, a2), (b1, b2), wl)) (hv.keeps hk) hl)
 obtain ⟨d, hd⟩ : ∃ d, qryRB (k, (a1, a2), (b1, b2), wl) = d := ⟨_, rfl⟩
 rw [hd] at HC ⊢
 clear hal hk hrd hd
 unfold qryV at HC ⊢
 simp only at HC ⊢
 go_enter Tryz.func160, Tryz.ntmps160
 go_upto_region 1 with fail
 clear hWA
 go_wp2_with fail
 refine HC.out.mono ?_
 rintro e w2 ⟨rfl, hu⟩
 have HE : Hid (KF W w2) := HK.out.trans hu.out
 clear HC hu HK
 go_wp2_with fail
 go_ret
 exact ⟨by first | rfl | (cases d <;> rfl), HE⟩
/-- What the index of what may not be says. -/
def IxQ (l : List Qry) (r : Int) : Prop := (l.all qryRB = true ∧ r = -1) ∨ (l.all qryRB = false ∧ 0 ≤ r ∧ r ≤ 1000000)
theorem qindex_spec {W : World} {v : Value} {l : List Qry} {P : Nat → Prop} (h : QRX W v l P) (hl : l.length ≤ 1000000) (hw : ∀ q ∈ l, q.2.2.2.length ≤ 1000000) : Calls Tryz.prog 188 #[v, .func (.func 160) #[] #[]] W fun e W' => ∃ r : Int, e = .returned (.int .i64 r) ∧ Hid (IxQ l r ∧ KF W W') := by
 obtain ⟨lv, hlv, h3r, h3q⟩ := h
 obtain ⟨ao, cap, rfl, hle, hr⟩ := h3r.1.1
 obtain ⟨n, hn⟩ : ∃ n, l.length = n := ⟨_, rfl⟩
 rw [hn] at hlv hl
 rw [hlv] at hle hr ⊢
 have HN := Lib.hid hn
 have HLV := Lib.hid hlv
 have HR : Hid (0 < n → ∃ g off, ao = some ⟨g, off, none⟩ ∧ g < W.heap.size ∧ ∀ (j : Nat) (x : QV), lv[j]? = some x → ∀ (i : Nat) (u : Value), (qE.enc x)[i]? = some u → W.cell? ⟨g, off + j * 6 + i, none⟩ = some u) := hr
 have HQ : Hid (∀ (j : Nat) (q : Qry) (qv : QV), l[j]? = some q → lv[j]? = some qv → RelX W qv q P) := h3q
 have HW := Lib.hid hw
 clear hn hlv h3r h3q hr hw
 go_enter Tryz.func188, Tryz.ntmps188
 go_wp2_with fail
 go_loopg [8] n (fun g t wx => ∃ i : Nat, i ≤ n ∧ g = n - i ∧ t = .int .i64 i ∧ Hid (KF W wx ∧ ∀ (j : Nat) (q : Qry), j < i → l[j]? = some q → qryRB q = true))
 case atStart => exact ⟨0, Nat.zero_le _, rfl, rfl, Keeps.refl _ _, fun j y hj _ => absurd hj (Nat.not_lt_zero _)⟩
 case round =>
  obtain ⟨i, hi, rfl, rfl, HI⟩ := hrel
  by_cases hlt : i < n
  ·have hiI : (i : Int) < (n : Int) := by omega
   have hwi : IntKind.i64.wrap ((i : Int) + 1) = (i : Int) + 1 := IntWalk.i64_in _ (by omega)
   obtain ⟨y, hy⟩ : ∃ y, lv[i]? = some y := ⟨_, List.getElem?_eq_getElem (by rw [HLV.out]; exact hlt)⟩
   obtain ⟨q, hq⟩ : ∃ q, l[i]? = some q := ⟨_, List.getElem?_eq_getElem (by rw [HN.out]; exact hlt)⟩
   obtain ⟨g, off, rfl, hg, hcc⟩ := HR.out (by omega)
   have hicap : i < cap := by omega
   have hrq := HQ.out i q y hq hy
   have HYQ := Lib.hid hq
   have HBQ := Lib.hid (fun (v : Value) (w : World) (hv : ReadsS w v q.2.2.2) => badq_spec hv (HW.out q (List.mem_of_getElem? hq)))
   have hc := hcc i y hy
   obtain ⟨yk, ⟨ya1, ya2⟩, ⟨yb1, yb2⟩, yo, yn, yc⟩ := y
   have c0 : wr.cell? ⟨g, off + i * 6, none⟩ = some (.int .i64 yk) := (HI.out.1.cell (p := ⟨g, off + i * 6 + 0, none⟩) hg (fun x => x)).trans (hc 0 _ rfl)
   have c1 : wr.cell? ⟨g, off + i * 6 + 1, none⟩ = some (.string ⟨ya1.toArray⟩) := (HI.out.1.cell (p := ⟨g, off + i * 6 + 1, none⟩) hg (fun x => x)).trans (hc 1 _ rfl)
   have c2 : wr.cell? ⟨g, off + i * 6 + 2, none⟩ = some (.string ⟨ya2.toArray⟩) := (HI.out.1.cell (p := ⟨g, off + i * 6 + 2, none⟩) hg (fun x => x)).trans (hc 2 _ rfl)
   have c3 : wr.cell? ⟨g, off + i * 6 + 3, none⟩ = some (.string ⟨yb1.toArray⟩) := (HI.out.1.cell (p := ⟨g, off + i * 6 + 3, none⟩) hg (fun x => x)).trans (hc 3 _ rfl)
   have c4 : wr.cell? ⟨g, off + i * 6 + 4, none⟩ = some (.string ⟨yb2.toArray⟩) := (HI.out.1.cell (p := ⟨g, off + i * 6 + 4, none⟩) hg (fun x => x)).trans (hc 4 _ rfl)
   have c5 : wr.cell? ⟨g, off + i * 6 + 5, none⟩ = some (.slice yo yn yc) := (HI.out.1.cell (p := ⟨g, off + i * 6 + 5, none⟩) hg (fun x => x)).trans (hc 5 _ rfl)
   obtain ⟨e0, e1, e2, hz⟩ := hrq
   obtain ⟨qb, hqb⟩ : ∃ b, qryRB q = b := ⟨_, rfl⟩
   rw [hqb] at HBQ
   have HQB := Lib.hid hqb
   have HC : Hid (Calls Tryz.prog 160 #[.agg #[.int .i64 yk, .string ⟨ya1.toArray⟩, .string ⟨ya2.toArray⟩, .string ⟨yb1.toArray⟩, .string ⟨yb2.toArray⟩, .slice yo yn yc]] wr fun e W' => e = .returned (.bool (!qb)) ∧ Hid (KF wr W')) := by
    have z := HBQ.out (.slice yo yn yc) wr (hz.1.keeps HI.out.1)
    unfold qryV at z
    rw [← e0, ← e1, ← e2] at z
    exact z
   clear hcc hc hy hq e0 e1 e2 hz hqb HBQ
   go_wp2_with fail
   refine HC.out.mono ?_
   rintro e w2 ⟨rfl, hk⟩
   have HK2 : Hid (KF W w2) := HI.out.1.trans hk.out
   have HIO := Lib.hid HI.out.2
   clear HC hk HI c0 c1 c2 c3 c4 c5
   cases qb
   ·have HP : Hid (IxQ l (i : Int) ∧ KF W w2) := ⟨.inr ⟨all_no2 HYQ.out HQB.out, by omega, by omega⟩, HK2.out⟩
    clear HK2 HIO
    go_wp2_with fail
    go_ret
    exact ⟨_, rfl, HP⟩
   ·have HN2 : Hid (KF W w2 ∧ ∀ (j : Nat) (q : Qry), j < i + 1 → l[j]? = some q → qryRB q = true) := ⟨HK2.out, fun j z hj hz => by
     rcases Nat.lt_or_ge j i with k | k
     ·exact HIO.out j z k hz
     ·obtain rfl : j = i := by omega
      have h := HYQ.out
      rw [hz] at h
      rw [Option.some.inj h]
      exact HQB.out⟩
    clear HK2 HIO
    go_wp2_with fail
    go_roundg (n - (i + 1))
    case measure => omega
    case rel => exact ⟨i + 1, by omega, rfl, by go_num, HN2⟩
  ·obtain rfl : i = n := by omega
   have hiI : ¬ (i : Int) < (i : Int) := by omega
   have HP : Hid (IxQ l (-1) ∧ KF W wr) := ⟨.inl ⟨List.all_eq_true.2 (fun q hq => by obtain ⟨j, hj⟩ := List.getElem?_of_mem hq; exact HI.out.2 j q (by have := (List.getElem?_eq_some_iff.1 hj).1; have := HN.out; omega) hj), rfl⟩, HI.out.1⟩
   clear HI
   go_wp2_with fail
   go_ret
   exact ⟨_, rfl, HP⟩
theorem qcontains_spec {W : World} {v : Value} {l : List Qry} {P : Nat → Prop} (h : QRX W v l P) (hl : l.length ≤ 1000000) (hw : ∀ q ∈ l, q.2.2.2.length ≤ 1000000) : Calls Tryz.prog 162 #[v, .func (.func 160) #[] #[]] W fun e W' => e = .returned (.bool (!l.all qryRB)) ∧ Hid (KF W W') := by
 have HC := Lib.hid (qindex_spec h hl hw)
 obtain ⟨d, hd⟩ : ∃ d, l.all qryRB = d := ⟨_, rfl⟩
 have HIX : Hid (∀ r, IxQ l r → (d = true ∧ r = -1) ∨ (d = false ∧ 0 ≤ r ∧ r ≤ 1000000)) := fun r h => by rw [← hd]; exact h
 rw [hd]
 clear hd h
 go_enter Tryz.func162, Tryz.ntmps162
 go_wp2_with fail
 refine HC.out.mono ?_
 rintro e w2 ⟨r, rfl, hr⟩
 have HE := Lib.hid hr.out.2
 rcases HIX.out r hr.out.1 with ⟨rfl, rfl⟩ | ⟨rfl, h0, h1⟩
 ·clear HC hr HIX
  go_wp2_with fail
  go_ret
  exact ⟨rfl, HE⟩
 ·clear HC hr HIX
  go_wp2_with fail
  go_ret
  exact ⟨by first | rfl | (show Ending.returned (Value.bool (decide (0 ≤ r))) = _; rw [decide_eq_true h0]; rfl), HE⟩
theorem prightp_spec {W : World} {v0 v1 v2 v3 : Value} {p : Pol} {P : Nat → Prop} (h : PolX W v0 v1 v2 v3 p P) (hl : FewR p) :
 Calls Tryz.prog 111 #[.agg #[v0, v1, v2, v3]] W fun e W' => e = .returned (.bool (polRB p)) ∧ Hid (KF W W') := by
 have HFI : Hid (∀ w, KF W w → Calls Tryz.prog 163 #[.agg #[v0, v1, v2, v3]] w fun e W' => e = .returned (.bool (fitsPB p)) ∧ Hid (KF w W')) := fun w hk => pfits_spec (h.into hk (fun _ _ _ x => x) (fun _ _ x => x)) hl
 have HSG : Hid (∀ w, KF W w → Calls Tryz.prog 161 #[v1] w fun e W' => e = .returned (.bool (rowOk roleB rolLt p.2.1)) ∧ Hid (KF w W')) := fun w hk => sorted_spec (h.2.1.1.1.keeps hk) (by have := hl.2.1; omega)
 have HSS : Hid (∀ w, KF W w → Calls Tryz.prog 161 #[v2] w fun e W' => e = .returned (.bool (rowOk roleB rolLt p.2.2.1)) ∧ Hid (KF w W')) := fun w hk => sorted_spec (h.2.2.1.1.1.keeps hk) (by have := hl.2.2.1; omega)
 have HCQ : Hid (∀ w, KF W w → Calls Tryz.prog 162 #[v3, .func (.func 160) #[] #[]] w fun e W' => e = .returned (.bool (!p.2.2.2.all qryRB)) ∧ Hid (KF w W')) := fun w hk => qcontains_spec (h.2.2.2.into hk (fun _ _ _ x => x) (fun _ _ x => x)) (by have := hl.2.2.2.1; omega) (fun q hq => by have := hl.2.2.2.2 q hq; omega)
 obtain ⟨R, hR⟩ : ∃ R, polRB p = R := ⟨_, rfl⟩
 have HD0 : Hid (R = (rowOk stmRB stmLt p.1 && (rowOk roleB rolLt p.2.1 && (rowOk roleB rolLt p.2.2.1 && (p.2.2.2.all qryRB && fitsPB p))))) := by
  show R = _
  rw [← hR]
  exact polRB_rows p
 rw [hR]
 obtain ⟨b1, hb1⟩ : ∃ f, rowOk roleB rolLt p.2.1 = f := ⟨_, rfl⟩
 obtain ⟨b2, hb2⟩ : ∃ f, rowOk roleB rolLt p.2.2.1 = f := ⟨_, rfl⟩
 obtain ⟨b3, hb3⟩ : ∃ f, p.2.2.2.all qryRB = f := ⟨_, rfl⟩
 obtain ⟨b4, hb4⟩ : ∃ f, fitsPB p = f := ⟨_, rfl⟩
 rw [hb1] at HSG HD0
 rw [hb2] at HSS HD0
 rw [hb3] at HCQ HD0
 rw [hb4] at HFI HD0
 clear hR hb1 hb2 hb3 hb4
 obtain ⟨l0, l1, l2, l3⟩ := p
 simp only at HD0
 obtain ⟨hl0, hl1, hl2, hl3, hlw⟩ := hl
 simp only at hl0 hl1 hl2 hl3 hlw
 obtain ⟨h0, h1, h2, h3⟩ := h
 simp only at h0 h1 h2 h3
 obtain ⟨lv, hlv, h3r, h3q⟩ := id h3
 obtain ⟨ao0, cp0, hv0, hle0, hr0⟩ := id h0.1.1
 obtain ⟨ao1, cp1, hv1, hle1, hr1⟩ := id h1.1.1
 obtain ⟨ao2, cp2, hv2, hle2, hr2⟩ := id h2.1.1
 obtain ⟨ao3, cp3, hv3, hle3, hr3⟩ := id h3r.1.1
 subst hv0 hv1 hv2 hv3
 clear hr0 hr1 hr2 hr3
 obtain ⟨n0, hn0⟩ : ∃ n, l0.length = n := ⟨_, rfl⟩
 obtain ⟨n1, hn1⟩ : ∃ n, l1.length = n := ⟨_, rfl⟩
 obtain ⟨n2, hn2⟩ : ∃ n, l2.length = n := ⟨_, rfl⟩
 obtain ⟨n3, hn3⟩ : ∃ n, l3.length = n := ⟨_, rfl⟩
 rw [hn0] at h0 hle0 hl0 ⊢
 rw [hn1] at h1 hle1 hl1 ⊢
 rw [hn2] at h2 hle2 hl2 ⊢
 rw [hn3] at hlv hl3
 rw [hlv] at h3 h3r hle3 ⊢
 rw [hn0, hn1, hn2, hlv] at HFI
 rw [hn1] at HSG
 rw [hn2] at HSS
 rw [hlv] at HCQ
 have HN0 := Lib.hid hn0
 have HN1 := Lib.hid hn1
 have HN2 := Lib.hid hn2
 have HN3 := Lib.hid hn3
 have HLV := Lib.hid hlv
 have HLW := Lib.hid hlw
 have ha := (MapKept.heap_alloc W (bP ao0 n0 cp0 ao1 n1 cp1 ao2 n2 cp2 ao3 n3 cp3)).1
 obtain ⟨WB, hWB⟩ : ∃ q, W.alloc (bP ao0 n0 cp0 ao1 n1 cp1 ao2 n2 cp2 ao3 n3 cp3) = q := ⟨_, rfl⟩
 have hkA : KF W WB := by rw [← hWB]; exact (Keeps.refl _ _).alloc _
 rw [hWB] at ha
 have HS := Lib.hid ha
 have HK0 := Lib.hid hkA
 have HV0 : Hid (RdK stmE WB (.slice ao0 n0 cp0) l0) := h0.1.1.keeps hkA
 have HV1 : Hid (RdK rolE WB (.slice ao1 n1 cp1) l1) := h1.1.1.keeps hkA
 have HV2 : Hid (RdK rolE WB (.slice ao2 n2 cp2) l2) := h2.1.1.keeps hkA
 have HV3 : Hid (RdK qE WB (.slice ao3 n3 cp3) lv) := h3r.1.1.keeps hkA
 have HQ : Hid (∀ (j : Nat) (q : Qry) (qv : QV), l3[j]? = some q → lv[j]? = some qv → RelX W qv q P) := h3q
 obtain ⟨LB, hLB⟩ : ∃ q, WB.heap.size = q := ⟨_, rfl⟩
 have HLB := Lib.hid hLB
 have HR : Hid (0 < n0 → ∃ g off, ao0 = some ⟨g, off, none⟩ ∧ g < WB.heap.size ∧ ∀ (j : Nat) (x : Stm), l0[j]? = some x → ∀ (i : Nat) (u : Value), (stmE.enc x)[i]? = some u → WB.cell? ⟨g, off + j * 9 + i, none⟩ = some u) := fun hz => by
  obtain ⟨ao, cap, e, _, q⟩ := h0.1.1.keeps hkA
  simp only [Value.slice.injEq] at e
  obtain ⟨rfl, hz2, rfl⟩ := e
  exact q (by omega)
 clear ha hkA h0 h1 h2 h3 h3r h3q hlv hn0 hn1 hn2 hn3 hlw hLB
 have HD := Lib.hid (show R = false ∨ True from .inr trivial)
 clear HD HV0 HV1 HV2 HV3 HQ HN1 HN2 HN3 HLV HLW HLB
 go_enter Tryz.func111, Tryz.ntmps111
 go_upto_region 1 with fail
 clear hWB
 obtain ⟨Sc0, Sf0, Sc1, Sf1, Sc2, Sf2, Sc3, Sf3⟩ := cf4 HS.out
 go_wp2_with fail
 clear Sc0 Sf0 Sc1 Sf1 Sc2 Sf2 Sc3 Sf3
 have HD : Hid (R = (rowOk stmRB stmLt l0 && (b1 && (b2 && (b3 && b4))))) := HD0.out
 clear HD0
 go_loopg [9] n0 (fun g t wx => ∃ i : Nat, i ≤ n0 ∧ g = n0 - i ∧ t = .int .i64 i ∧ Hid (KF WB wx ∧ POk stmRB stmLt l0 i))
 case atStart => exact ⟨0, Nat.zero_le _, rfl, rfl, Keeps.refl _ _, POk.zero⟩
 case round =>
  obtain ⟨i, hi, rfl, rfl, HI⟩ := hrel
  by_cases hlt : i < n0
  ·skip
   have hiI : (i : Int) < (n0 : Int) := by omega
   have hwi : IntKind.i64.wrap ((i : Int) + 1) = (i : Int) + 1 := IntWalk.i64_in _ (by omega)
   obtain ⟨y, hy⟩ : ∃ y, l0[i]? = some y := ⟨_, List.getElem?_eq_getElem (by rw [HN0.out]; exact hlt)⟩
   obtain ⟨g, off, rfl, hg, hcc⟩ := HR.out (by omega)
   have hicap : i < cp0 := by omega
   have HCC : Hid (∀ (j : Nat) (x : _), l0[j]? = some x → ∀ (t : Nat) (u : Value), (stmE.enc x)[t]? = some u → wr.cell? ⟨g, off + j * 9 + t, none⟩ = some u) := fun j x hj t u hu => (HI.out.1.cell (p := ⟨g, off + j * 9 + t, none⟩) hg (fun x => x)).trans (hcc j x hj t u hu)
   have HY := Lib.hid hy
   obtain ⟨⟨yh1, yh2⟩, yk, yo, ⟨ya1, ya2⟩, ⟨yb1, yb2⟩, yi⟩ := y
   clear hcc hy
   have c0 : wr.cell? ⟨g, off + i * 9, none⟩ = some (.int .i64 yk) := HCC.out i _ HY.out 0 _ rfl
   have c1 : wr.cell? ⟨g, off + i * 9 + 1, none⟩ = some (.string ⟨yh1.toArray⟩) := HCC.out i _ HY.out 1 _ rfl
   have c2 : wr.cell? ⟨g, off + i * 9 + 2, none⟩ = some (.string ⟨yh2.toArray⟩) := HCC.out i _ HY.out 2 _ rfl
   have c3 : wr.cell? ⟨g, off + i * 9 + 3, none⟩ = some (.string ⟨yo.toArray⟩) := HCC.out i _ HY.out 3 _ rfl
   have c4 : wr.cell? ⟨g, off + i * 9 + 4, none⟩ = some (.string ⟨ya1.toArray⟩) := HCC.out i _ HY.out 4 _ rfl
   have c5 : wr.cell? ⟨g, off + i * 9 + 5, none⟩ = some (.string ⟨ya2.toArray⟩) := HCC.out i _ HY.out 5 _ rfl
   have c6 : wr.cell? ⟨g, off + i * 9 + 6, none⟩ = some (.string ⟨yb1.toArray⟩) := HCC.out i _ HY.out 6 _ rfl
   have c7 : wr.cell? ⟨g, off + i * 9 + 7, none⟩ = some (.string ⟨yb2.toArray⟩) := HCC.out i _ HY.out 7 _ rfl
   have c8 : wr.cell? ⟨g, off + i * 9 + 8, none⟩ = some (.string ⟨yi.toArray⟩) := HCC.out i _ HY.out 8 _ rfl
   have hal := (MapKept.heap_alloc wr (bM yk yh1 yh2 yo ya1 ya2 yb1 yb2 yi)).1
   have hka : KF wr (wr.alloc (bM yk yh1 yh2 yo ya1 ya2 yb1 yb2 yi)) := (Keeps.refl _ _).alloc _
   obtain ⟨b, hb⟩ : ∃ b, wr.heap.size = b := ⟨_, rfl⟩
   rw [hb] at hal
   have HB := Lib.hid hal
   have HO : Hid (KF WB (wr.alloc (bM yk yh1 yh2 yo ya1 ya2 yb1 yb2 yi))) := HI.out.1.trans hka
   obtain ⟨q, hq⟩ : ∃ q, stmRB ((yh1, yh2), yk, yo, (ya1, ya2), (yb1, yb2), yi) = q := ⟨_, rfl⟩
   have HP : Hid (∀ w, Calls Tryz.prog 158 #[.agg #[.int .i64 yk, .string ⟨yh1.toArray⟩, .string ⟨yh2.toArray⟩, .string ⟨yo.toArray⟩, .string ⟨ya1.toArray⟩, .string ⟨ya2.toArray⟩, .string ⟨yb1.toArray⟩, .string ⟨yb2.toArray⟩, .string ⟨yi.toArray⟩]] w fun e W' => e = .returned (.bool q) ∧ Hid (KF w W')) := fun w => by rw [← hq]; exact sstmright_all ((yh1, yh2), yk, yo, (ya1, ya2), (yb1, yb2), yi)
   have HQ := Lib.hid hq
   have HIO := Lib.hid HI.out.2
   clear hq
   go_upto_region 4 with fail
   clear hal c0 c1 c2 c3 c4 c5 c6 c7 c8
   cases q
   case false =>
    clear HCC
    clear HI hka hb
    generalize wr.alloc (bM yk yh1 yh2 yo ya1 ya2 yb1 yb2 yi) = w1 at *
    obtain ⟨p0, f0, p1, f1, p2, f2, p3, f3, p4, f4, p5, f5, p6, f6, p7, f7, p8, f8⟩ := cf9 HB.out
    clear f0 f1 f2 f3 f4 f5 f6 f7 f8
    have S0 : w1.cell? ⟨W.heap.size, 0, none⟩ = some (.slice (some ⟨g, off, none⟩) n0 cp0) := by rw [cell_of_heap ((HO.out.block _ (lt_of_heap HS.out) (fun x => x)).trans HS.out)]; rfl
    have HMK1 : Hid (∀ w' : World, KF w1 w' → w'.cell? ⟨b, 0, none⟩ = some (.int .i64 yk) ∧ w'.cell? ⟨b, 1, none⟩ = some (.string ⟨yh1.toArray⟩) ∧ w'.cell? ⟨b, 2, none⟩ = some (.string ⟨yh2.toArray⟩) ∧ w'.cell? ⟨b, 3, none⟩ = some (.string ⟨yo.toArray⟩) ∧ w'.cell? ⟨b, 4, none⟩ = some (.string ⟨ya1.toArray⟩) ∧ w'.cell? ⟨b, 5, none⟩ = some (.string ⟨ya2.toArray⟩) ∧ w'.cell? ⟨b, 6, none⟩ = some (.string ⟨yb1.toArray⟩) ∧ w'.cell? ⟨b, 7, none⟩ = some (.string ⟨yb2.toArray⟩) ∧ w'.cell? ⟨b, 8, none⟩ = some (.string ⟨yi.toArray⟩) ∧ w'.cell? ⟨W.heap.size, 0, none⟩ = some (.slice (some ⟨g, off, none⟩) n0 cp0)) := fun w' hk => ⟨kc hk p0, kc hk p1, kc hk p2, kc hk p3, kc hk p4, kc hk p5, kc hk p6, kc hk p7, kc hk p8, kc hk S0⟩
    have HKX1 : Hid (KF w1 w1.drew) := (Keeps.refl _ _).drew
    have hS0 := HMK1.out _ HKX1.out
    clear p0 p1 p2 p3 p4 p5 p6 p7 p8 S0
    refine wp_region_noPanic ?_
    refine wp_region_held_drew (S := (fun w' => w'.cell? ⟨b, 0, none⟩ = some (.int .i64 yk) ∧ w'.cell? ⟨b, 1, none⟩ = some (.string ⟨yh1.toArray⟩) ∧ w'.cell? ⟨b, 2, none⟩ = some (.string ⟨yh2.toArray⟩) ∧ w'.cell? ⟨b, 3, none⟩ = some (.string ⟨yo.toArray⟩) ∧ w'.cell? ⟨b, 4, none⟩ = some (.string ⟨ya1.toArray⟩) ∧ w'.cell? ⟨b, 5, none⟩ = some (.string ⟨ya2.toArray⟩) ∧ w'.cell? ⟨b, 6, none⟩ = some (.string ⟨yb1.toArray⟩) ∧ w'.cell? ⟨b, 7, none⟩ = some (.string ⟨yb2.toArray⟩) ∧ w'.cell? ⟨b, 8, none⟩ = some (.string ⟨yi.toArray⟩) ∧ w'.cell? ⟨W.heap.size, 0, none⟩ = some (.slice (some ⟨g, off, none⟩) n0 cp0))) (by kernel_rfl) hS0 (fun hHeld => ?_)
    clear hS0
    generalize w1.drew = w2 at *
    refine tk 0 rfl hHeld ?_
    (try simp only [nz])
    refine on1 1 rfl fun KK hK => ?_
    go_simp
    refine (HP.out _).mono ?_
    rintro e w3 ⟨rfl, hk⟩
    replace HKX1 := Lib.hid (HKX1.out.trans hk.out)
    clear hk HP
    go_simp
    refine hK.out _ _ (HMK1.out _ HKX1.out) fun hHeld => ?_
    clear hK KK
    (try simp only [nz])
    refine on1 2 rfl fun KK hK => ?_
    go_simp
    refine hK.out _ _ (HMK1.out _ HKX1.out) fun hHeld => ?_
    clear hK KK
    (try simp only [nz])
    refine on1 3 rfl fun KK hK => ?_
    go_simp
    refine hK.out _ _ (HMK1.out _ HKX1.out) fun hHeld => ?_
    clear hK KK
    (try simp only [nz])
    refine on1 4 rfl fun KK hK => ?_
    go_simp
    refine hK.out _ _ (HMK1.out _ HKX1.out) fun hHeld => ?_
    clear hK KK
    (try simp only [nz])
    refine on1 5 rfl fun KK hK => ?_
    go_simp
    refine hK.out _ _ (HMK1.out _ HKX1.out) fun hHeld => ?_
    clear hK KK
    (try simp only [nz])
    refine on1 6 rfl fun KK hK => ?_
    go_simp
    refine hK.out _ _ (HMK1.out _ HKX1.out) fun hHeld => ?_
    clear hK KK
    refine tks 7 rfl hHeld ?_
    refine tks 8 rfl hHeld ?_
    (try simp only [nz])
    refine tks 9 rfl hHeld ?_
    refine tks 13 rfl hHeld ?_
    (try simp only [nz])
    refine on1 10 rfl fun KK hK => ?_
    go_simp
    refine hK.out _ _ (HMK1.out _ HKX1.out) fun hHeld => ?_
    clear hK KK
    (try simp only [nz])
    refine on1 11 rfl fun KK hK => ?_
    go_simp
    refine hK.out _ _ (HMK1.out _ HKX1.out) fun hHeld => ?_
    clear hK KK
    (try simp only [nz])
    refine on1 12 rfl fun KK hK => ?_
    go_simp
    refine hK.out _ _ (HMK1.out _ HKX1.out) fun hHeld => ?_
    clear hK KK
    (try simp only [nz])
    refine on1 14 rfl fun KK hK => ?_
    go_simp
    refine hK.out _ _ (HMK1.out _ HKX1.out) fun hHeld => ?_
    clear hK KK
    (try simp only [nz])
    refine on1 15 rfl fun KK hK => ?_
    go_simp
    refine hK.out _ _ (HMK1.out _ HKX1.out) fun hHeld => ?_
    clear hK KK
    (try simp only [nz])
    refine on1 16 rfl fun KK hK => ?_
    go_simp
    refine hK.out _ _ (HMK1.out _ HKX1.out) fun hHeld => ?_
    clear hK KK
    (try simp only [nz])
    refine on1 17 rfl fun KK hK => ?_
    go_simp
    refine hK.out _ _ (HMK1.out _ HKX1.out) fun hHeld => ?_
    clear hK KK
    (try simp only [nz])
    refine wpAnyH_done (by kernel_rfl) ?_ _
    refine NoPanic.normal ?_
    clear hHeld HMK1
    have e : Hid (R = false) := show R = false by rw [HD.out, rowOk_no HY.out HQ.out, Bool.false_and]
    have HE : Hid (KF W w3) := HK0.out.trans (HO.out.trans HKX1.out)
    clear HO HKX1
    go_wp2_with fail
    go_ret
    exact ⟨by rw [e.out]; rfl, HE⟩
   case true =>
    rcases Nat.eq_zero_or_pos i with h0 | h0
    case inl =>
     have h0I : ¬ (0 : Int) < (i : Int) := by omega
     have h0N : ¬ 0 < i := by omega
     have H0 := Lib.hid h0
     clear HCC h0
     clear HI hka hb
     generalize wr.alloc (bM yk yh1 yh2 yo ya1 ya2 yb1 yb2 yi) = w1 at *
     obtain ⟨p0, f0, p1, f1, p2, f2, p3, f3, p4, f4, p5, f5, p6, f6, p7, f7, p8, f8⟩ := cf9 HB.out
     clear f0 f1 f2 f3 f4 f5 f6 f7 f8
     have S0 : w1.cell? ⟨W.heap.size, 0, none⟩ = some (.slice (some ⟨g, off, none⟩) n0 cp0) := by rw [cell_of_heap ((HO.out.block _ (lt_of_heap HS.out) (fun x => x)).trans HS.out)]; rfl
     have HMK20 : Hid (∀ w' : World, KF w1 w' → w'.cell? ⟨b, 0, none⟩ = some (.int .i64 yk) ∧ w'.cell? ⟨b, 1, none⟩ = some (.string ⟨yh1.toArray⟩) ∧ w'.cell? ⟨b, 2, none⟩ = some (.string ⟨yh2.toArray⟩) ∧ w'.cell? ⟨b, 3, none⟩ = some (.string ⟨yo.toArray⟩) ∧ w'.cell? ⟨b, 4, none⟩ = some (.string ⟨ya1.toArray⟩) ∧ w'.cell? ⟨b, 5, none⟩ = some (.string ⟨ya2.toArray⟩) ∧ w'.cell? ⟨b, 6, none⟩ = some (.string ⟨yb1.toArray⟩) ∧ w'.cell? ⟨b, 7, none⟩ = some (.string ⟨yb2.toArray⟩) ∧ w'.cell? ⟨b, 8, none⟩ = some (.string ⟨yi.toArray⟩) ∧ w'.cell? ⟨W.heap.size, 0, none⟩ = some (.slice (some ⟨g, off, none⟩) n0 cp0)) := fun w' hk => ⟨kc hk p0, kc hk p1, kc hk p2, kc hk p3, kc hk p4, kc hk p5, kc hk p6, kc hk p7, kc hk p8, kc hk S0⟩
     have HKX20 : Hid (KF w1 w1.drew) := (Keeps.refl _ _).drew
     have hS0 := HMK20.out _ HKX20.out
     clear p0 p1 p2 p3 p4 p5 p6 p7 p8 S0
     refine wp_region_noPanic ?_
     refine wp_region_held_drew (S := (fun w' => w'.cell? ⟨b, 0, none⟩ = some (.int .i64 yk) ∧ w'.cell? ⟨b, 1, none⟩ = some (.string ⟨yh1.toArray⟩) ∧ w'.cell? ⟨b, 2, none⟩ = some (.string ⟨yh2.toArray⟩) ∧ w'.cell? ⟨b, 3, none⟩ = some (.string ⟨yo.toArray⟩) ∧ w'.cell? ⟨b, 4, none⟩ = some (.string ⟨ya1.toArray⟩) ∧ w'.cell? ⟨b, 5, none⟩ = some (.string ⟨ya2.toArray⟩) ∧ w'.cell? ⟨b, 6, none⟩ = some (.string ⟨yb1.toArray⟩) ∧ w'.cell? ⟨b, 7, none⟩ = some (.string ⟨yb2.toArray⟩) ∧ w'.cell? ⟨b, 8, none⟩ = some (.string ⟨yi.toArray⟩) ∧ w'.cell? ⟨W.heap.size, 0, none⟩ = some (.slice (some ⟨g, off, none⟩) n0 cp0))) (by kernel_rfl) hS0 (fun hHeld => ?_)
     clear hS0
     generalize w1.drew = w2 at *
     refine tk 0 rfl hHeld ?_
     (try simp only [nz])
     refine on1 1 rfl fun KK hK => ?_
     go_simp
     refine (HP.out _).mono ?_
     rintro e w3 ⟨rfl, hk⟩
     replace HKX20 := Lib.hid (HKX20.out.trans hk.out)
     clear hk HP
     go_simp
     refine hK.out _ _ (HMK20.out _ HKX20.out) fun hHeld => ?_
     clear hK KK
     (try simp only [nz])
     refine on1 2 rfl fun KK hK => ?_
     go_simp
     refine hK.out _ _ (HMK20.out _ HKX20.out) fun hHeld => ?_
     clear hK KK
     (try simp only [nz])
     refine on1 3 rfl fun KK hK => ?_
     go_simp
     refine hK.out _ _ (HMK20.out _ HKX20.out) fun hHeld => ?_
     clear hK KK
     (try simp only [nz])
     refine on1 4 rfl fun KK hK => ?_
     go_simp
     refine hK.out _ _ (HMK20.out _ HKX20.out) fun hHeld => ?_
     clear hK KK
     (try simp only [nz])
     refine on1 5 rfl fun KK hK => ?_
     go_simp
     refine hK.out _ _ (HMK20.out _ HKX20.out) fun hHeld => ?_
     clear hK KK
     (try simp only [nz])
     refine on1 6 rfl fun KK hK => ?_
     go_simp
     refine hK.out _ _ (HMK20.out _ HKX20.out) fun hHeld => ?_
     clear hK KK
     refine tks 7 rfl hHeld ?_
     refine tks 8 rfl hHeld ?_
     (try simp only [nz])
     refine tks 9 rfl hHeld ?_
     refine tks 13 rfl hHeld ?_
     (try simp only [nz])
     refine on1 10 rfl fun KK hK => ?_
     go_simp
     refine hK.out _ _ (HMK20.out _ HKX20.out) fun hHeld => ?_
     clear hK KK
     (try simp only [nz])
     refine on1 11 rfl fun KK hK => ?_
     go_simp
     refine hK.out _ _ (HMK20.out _ HKX20.out) fun hHeld => ?_
     clear hK KK
     (try simp only [nz])
     refine on1 12 rfl fun KK hK => ?_
     go_simp
     refine hK.out _ _ (HMK20.out _ HKX20.out) fun hHeld => ?_
     clear hK KK
     (try simp only [nz])
     refine on1 14 rfl fun KK hK => ?_
     go_simp
     refine hK.out _ _ (HMK20.out _ HKX20.out) fun hHeld => ?_
     clear hK KK
     (try simp only [nz])
     refine on1 15 rfl fun KK hK => ?_
     go_simp
     refine hK.out _ _ (HMK20.out _ HKX20.out) fun hHeld => ?_
     clear hK KK
     (try simp only [nz])
     refine on1 16 rfl fun KK hK => ?_
     go_simp
     refine hK.out _ _ (HMK20.out _ HKX20.out) fun hHeld => ?_
     clear hK KK
     (try simp only [nz])
     refine on1 17 rfl fun KK hK => ?_
     go_simp
     refine hK.out _ _ (HMK20.out _ HKX20.out) fun hHeld => ?_
     clear hK KK
     (try simp only [nz])
     refine wpAnyH_done (by kernel_rfl) ?_ _
     refine NoPanic.normal ?_
     clear hHeld HMK20
     have HN2 : Hid (KF WB w3 ∧ POk stmRB stmLt l0 (i + 1)) := ⟨HO.out.trans HKX20.out, by have hy := HY.out; rw [show i = 0 from H0.out] at hy ⊢; exact POk.first hy HQ.out⟩
     clear HO HKX20 HIO
     go_wp2_with fail
     go_roundg (n0 - (i + 1))
     case measure => omega
     case rel => exact ⟨i + 1, by omega, rfl, by go_num, HN2⟩
    case inr =>
     have h0I : (0 : Int) < (i : Int) := by omega
     obtain ⟨m, hm⟩ : ∃ m, i = m + 1 := ⟨i - 1, by omega⟩
     obtain ⟨x, hx⟩ : ∃ x, l0[m]? = some x := ⟨_, List.getElem?_eq_getElem (by rw [HN0.out]; omega)⟩
     have hwm : IntKind.i64.wrap ((i : Int) - 1) = (m : Int) := by rw [IntWalk.i64_in _ (by omega)]; omega
     have hmI : (m : Int) < (n0 : Int) := by omega
     have hmcap : m < cp0 := by omega
     have HX := Lib.hid hx
     obtain ⟨⟨xh1, xh2⟩, xk, xo, ⟨xa1, xa2⟩, ⟨xb1, xb2⟩, xi⟩ := x
     have HM := Lib.hid hm
     clear hx hm
     have d0 : (wr.alloc (bM yk yh1 yh2 yo ya1 ya2 yb1 yb2 yi)).cell? ⟨g, off + m * 9, none⟩ = some (.int .i64 xk) := (hka.cell (p := ⟨g, off + m * 9 + 0, none⟩) (World.block_lt_of_cell? _ _ (HCC.out m _ HX.out 0 _ rfl)) (fun x => x)).trans (HCC.out m _ HX.out 0 _ rfl)
     have d1 : (wr.alloc (bM yk yh1 yh2 yo ya1 ya2 yb1 yb2 yi)).cell? ⟨g, off + m * 9 + 1, none⟩ = some (.string ⟨xh1.toArray⟩) := (hka.cell (p := ⟨g, off + m * 9 + 1, none⟩) (World.block_lt_of_cell? _ _ (HCC.out m _ HX.out 1 _ rfl)) (fun x => x)).trans (HCC.out m _ HX.out 1 _ rfl)
     have d2 : (wr.alloc (bM yk yh1 yh2 yo ya1 ya2 yb1 yb2 yi)).cell? ⟨g, off + m * 9 + 2, none⟩ = some (.string ⟨xh2.toArray⟩) := (hka.cell (p := ⟨g, off + m * 9 + 2, none⟩) (World.block_lt_of_cell? _ _ (HCC.out m _ HX.out 2 _ rfl)) (fun x => x)).trans (HCC.out m _ HX.out 2 _ rfl)
     have d3 : (wr.alloc (bM yk yh1 yh2 yo ya1 ya2 yb1 yb2 yi)).cell? ⟨g, off + m * 9 + 3, none⟩ = some (.string ⟨xo.toArray⟩) := (hka.cell (p := ⟨g, off + m * 9 + 3, none⟩) (World.block_lt_of_cell? _ _ (HCC.out m _ HX.out 3 _ rfl)) (fun x => x)).trans (HCC.out m _ HX.out 3 _ rfl)
     have d4 : (wr.alloc (bM yk yh1 yh2 yo ya1 ya2 yb1 yb2 yi)).cell? ⟨g, off + m * 9 + 4, none⟩ = some (.string ⟨xa1.toArray⟩) := (hka.cell (p := ⟨g, off + m * 9 + 4, none⟩) (World.block_lt_of_cell? _ _ (HCC.out m _ HX.out 4 _ rfl)) (fun x => x)).trans (HCC.out m _ HX.out 4 _ rfl)
     have d5 : (wr.alloc (bM yk yh1 yh2 yo ya1 ya2 yb1 yb2 yi)).cell? ⟨g, off + m * 9 + 5, none⟩ = some (.string ⟨xa2.toArray⟩) := (hka.cell (p := ⟨g, off + m * 9 + 5, none⟩) (World.block_lt_of_cell? _ _ (HCC.out m _ HX.out 5 _ rfl)) (fun x => x)).trans (HCC.out m _ HX.out 5 _ rfl)
     have d6 : (wr.alloc (bM yk yh1 yh2 yo ya1 ya2 yb1 yb2 yi)).cell? ⟨g, off + m * 9 + 6, none⟩ = some (.string ⟨xb1.toArray⟩) := (hka.cell (p := ⟨g, off + m * 9 + 6, none⟩) (World.block_lt_of_cell? _ _ (HCC.out m _ HX.out 6 _ rfl)) (fun x => x)).trans (HCC.out m _ HX.out 6 _ rfl)
     have d7 : (wr.alloc (bM yk yh1 yh2 yo ya1 ya2 yb1 yb2 yi)).cell? ⟨g, off + m * 9 + 7, none⟩ = some (.string ⟨xb2.toArray⟩) := (hka.cell (p := ⟨g, off + m * 9 + 7, none⟩) (World.block_lt_of_cell? _ _ (HCC.out m _ HX.out 7 _ rfl)) (fun x => x)).trans (HCC.out m _ HX.out 7 _ rfl)
     have d8 : (wr.alloc (bM yk yh1 yh2 yo ya1 ya2 yb1 yb2 yi)).cell? ⟨g, off + m * 9 + 8, none⟩ = some (.string ⟨xi.toArray⟩) := (hka.cell (p := ⟨g, off + m * 9 + 8, none⟩) (World.block_lt_of_cell? _ _ (HCC.out m _ HX.out 8 _ rfl)) (fun x => x)).trans (HCC.out m _ HX.out 8 _ rfl)
     clear HCC
     obtain ⟨u, hu⟩ : ∃ u, decide (stmLt ((xh1, xh2), xk, xo, (xa1, xa2), (xb1, xb2), xi) ((yh1, yh2), yk, yo, (ya1, ya2), (yb1, yb2), yi)) = u := ⟨_, rfl⟩
     have HC : Hid (∀ w, Calls Tryz.prog 159 #[.agg #[.int .i64 xk, .string ⟨xh1.toArray⟩, .string ⟨xh2.toArray⟩, .string ⟨xo.toArray⟩, .string ⟨xa1.toArray⟩, .string ⟨xa2.toArray⟩, .string ⟨xb1.toArray⟩, .string ⟨xb2.toArray⟩, .string ⟨xi.toArray⟩], .agg #[.int .i64 yk, .string ⟨yh1.toArray⟩, .string ⟨yh2.toArray⟩, .string ⟨yo.toArray⟩, .string ⟨ya1.toArray⟩, .string ⟨ya2.toArray⟩, .string ⟨yb1.toArray⟩, .string ⟨yb2.toArray⟩, .string ⟨yi.toArray⟩]] w fun e W' => e = .returned (.int .i64 (cmpO stmLt ((xh1, xh2), xk, xo, (xa1, xa2), (xb1, xb2), xi) ((yh1, yh2), yk, yo, (ya1, ya2), (yb1, yb2), yi))) ∧ Hid (KF w W')) := fun w => sOrder_spec ((xh1, xh2), xk, xo, (xa1, xa2), (xb1, xb2), xi) ((yh1, yh2), yk, yo, (ya1, ya2), (yb1, yb2), yi)
     obtain ⟨ro, hro⟩ : ∃ r, cmpO stmLt ((xh1, xh2), xk, xo, (xa1, xa2), (xb1, xb2), xi) ((yh1, yh2), yk, yo, (ya1, ya2), (yb1, yb2), yi) = r := ⟨_, rfl⟩
     have hcl := cmp_lt stmO ((xh1, xh2), xk, xo, (xa1, xa2), (xb1, xb2), xi) ((yh1, yh2), yk, yo, (ya1, ya2), (yb1, yb2), yi)
     rw [hro] at HC hcl
     rw [hu] at hcl
     have HCL := Lib.hid hcl
     clear hro hcl
     clear HI hka hb
     generalize wr.alloc (bM yk yh1 yh2 yo ya1 ya2 yb1 yb2 yi) = w1 at *
     obtain ⟨p0, f0, p1, f1, p2, f2, p3, f3, p4, f4, p5, f5, p6, f6, p7, f7, p8, f8⟩ := cf9 HB.out
     clear f0 f1 f2 f3 f4 f5 f6 f7 f8
     have S0 : w1.cell? ⟨W.heap.size, 0, none⟩ = some (.slice (some ⟨g, off, none⟩) n0 cp0) := by rw [cell_of_heap ((HO.out.block _ (lt_of_heap HS.out) (fun x => x)).trans HS.out)]; rfl
     have HMK39 : Hid (∀ w' : World, KF w1 w' → w'.cell? ⟨b, 0, none⟩ = some (.int .i64 yk) ∧ w'.cell? ⟨b, 1, none⟩ = some (.string ⟨yh1.toArray⟩) ∧ w'.cell? ⟨b, 2, none⟩ = some (.string ⟨yh2.toArray⟩) ∧ w'.cell? ⟨b, 3, none⟩ = some (.string ⟨yo.toArray⟩) ∧ w'.cell? ⟨b, 4, none⟩ = some (.string ⟨ya1.toArray⟩) ∧ w'.cell? ⟨b, 5, none⟩ = some (.string ⟨ya2.toArray⟩) ∧ w'.cell? ⟨b, 6, none⟩ = some (.string ⟨yb1.toArray⟩) ∧ w'.cell? ⟨b, 7, none⟩ = some (.string ⟨yb2.toArray⟩) ∧ w'.cell? ⟨b, 8, none⟩ = some (.string ⟨yi.toArray⟩) ∧ w'.cell? ⟨W.heap.size, 0, none⟩ = some (.slice (some ⟨g, off, none⟩) n0 cp0) ∧ w'.cell? ⟨g, off + m * 9, none⟩ = some (.int .i64 xk) ∧ w'.cell? ⟨g, off + m * 9 + 1, none⟩ = some (.string ⟨xh1.toArray⟩) ∧ w'.cell? ⟨g, off + m * 9 + 2, none⟩ = some (.string ⟨xh2.toArray⟩) ∧ w'.cell? ⟨g, off + m * 9 + 3, none⟩ = some (.string ⟨xo.toArray⟩) ∧ w'.cell? ⟨g, off + m * 9 + 4, none⟩ = some (.string ⟨xa1.toArray⟩) ∧ w'.cell? ⟨g, off + m * 9 + 5, none⟩ = some (.string ⟨xa2.toArray⟩) ∧ w'.cell? ⟨g, off + m * 9 + 6, none⟩ = some (.string ⟨xb1.toArray⟩) ∧ w'.cell? ⟨g, off + m * 9 + 7, none⟩ = some (.string ⟨xb2.toArray⟩) ∧ w'.cell? ⟨g, off + m * 9 + 8, none⟩ = some (.string ⟨xi.toArray⟩)) := fun w' hk => ⟨kc hk p0, kc hk p1, kc hk p2, kc hk p3, kc hk p4, kc hk p5, kc hk p6, kc hk p7, kc hk p8, kc hk S0, kc hk d0, kc hk d1, kc hk d2, kc hk d3, kc hk d4, kc hk d5, kc hk d6, kc hk d7, kc hk d8⟩
     have HKX39 : Hid (KF w1 w1.drew) := (Keeps.refl _ _).drew
     have hS0 := HMK39.out _ HKX39.out
     clear p0 p1 p2 p3 p4 p5 p6 p7 p8 S0 d0 d1 d2 d3 d4 d5 d6 d7 d8
     refine wp_region_noPanic ?_
     refine wp_region_held_drew (S := (fun w' => w'.cell? ⟨b, 0, none⟩ = some (.int .i64 yk) ∧ w'.cell? ⟨b, 1, none⟩ = some (.string ⟨yh1.toArray⟩) ∧ w'.cell? ⟨b, 2, none⟩ = some (.string ⟨yh2.toArray⟩) ∧ w'.cell? ⟨b, 3, none⟩ = some (.string ⟨yo.toArray⟩) ∧ w'.cell? ⟨b, 4, none⟩ = some (.string ⟨ya1.toArray⟩) ∧ w'.cell? ⟨b, 5, none⟩ = some (.string ⟨ya2.toArray⟩) ∧ w'.cell? ⟨b, 6, none⟩ = some (.string ⟨yb1.toArray⟩) ∧ w'.cell? ⟨b, 7, none⟩ = some (.string ⟨yb2.toArray⟩) ∧ w'.cell? ⟨b, 8, none⟩ = some (.string ⟨yi.toArray⟩) ∧ w'.cell? ⟨W.heap.size, 0, none⟩ = some (.slice (some ⟨g, off, none⟩) n0 cp0) ∧ w'.cell? ⟨g, off + m * 9, none⟩ = some (.int .i64 xk) ∧ w'.cell? ⟨g, off + m * 9 + 1, none⟩ = some (.string ⟨xh1.toArray⟩) ∧ w'.cell? ⟨g, off + m * 9 + 2, none⟩ = some (.string ⟨xh2.toArray⟩) ∧ w'.cell? ⟨g, off + m * 9 + 3, none⟩ = some (.string ⟨xo.toArray⟩) ∧ w'.cell? ⟨g, off + m * 9 + 4, none⟩ = some (.string ⟨xa1.toArray⟩) ∧ w'.cell? ⟨g, off + m * 9 + 5, none⟩ = some (.string ⟨xa2.toArray⟩) ∧ w'.cell? ⟨g, off + m * 9 + 6, none⟩ = some (.string ⟨xb1.toArray⟩) ∧ w'.cell? ⟨g, off + m * 9 + 7, none⟩ = some (.string ⟨xb2.toArray⟩) ∧ w'.cell? ⟨g, off + m * 9 + 8, none⟩ = some (.string ⟨xi.toArray⟩))) (by kernel_rfl) hS0 (fun hHeld => ?_)
     clear hS0
     generalize w1.drew = w2 at *
     have HU := Lib.hid hu
     clear hu
     refine tk 0 rfl hHeld ?_
     (try simp only [nz])
     refine on1 1 rfl fun KK hK => ?_
     go_simp
     refine (HP.out _).mono ?_
     rintro e w3 ⟨rfl, hk⟩
     replace HKX39 := Lib.hid (HKX39.out.trans hk.out)
     clear hk HP
     go_simp
     refine hK.out _ _ (HMK39.out _ HKX39.out) fun hHeld => ?_
     clear hK KK
     (try simp only [nz])
     refine on1 2 rfl fun KK hK => ?_
     go_simp
     refine hK.out _ _ (HMK39.out _ HKX39.out) fun hHeld => ?_
     clear hK KK
     (try simp only [nz])
     refine on1 3 rfl fun KK hK => ?_
     go_simp
     refine hK.out _ _ (HMK39.out _ HKX39.out) fun hHeld => ?_
     clear hK KK
     (try simp only [nz])
     refine on1 4 rfl fun KK hK => ?_
     go_simp
     refine hK.out _ _ (HMK39.out _ HKX39.out) fun hHeld => ?_
     clear hK KK
     (try simp only [nz])
     refine on1 5 rfl fun KK hK => ?_
     go_simp
     refine hK.out _ _ (HMK39.out _ HKX39.out) fun hHeld => ?_
     clear hK KK
     (try simp only [nz])
     refine on1 6 rfl fun KK hK => ?_
     go_simp
     refine hK.out _ _ (HMK39.out _ HKX39.out) fun hHeld => ?_
     clear hK KK
     refine tk 7 rfl hHeld ?_
     refine tk 9 rfl hHeld ?_
     (try simp only [nz])
     refine tk 13 rfl hHeld ?_
     refine tk 8 rfl hHeld ?_
     refine tk 10 rfl hHeld ?_
     (try simp only [nz])
     refine on1 11 rfl fun KK hK => ?_
     go_simp
     refine hK.out _ _ (HMK39.out _ HKX39.out) fun hHeld => ?_
     clear hK KK
     refine tk 12 rfl hHeld ?_
     (try simp only [nz])
     cases u
     case false =>
      have hro : 0 ≤ ro := by have := of_decide_eq_false HCL.out; omega
      have hro2 : ¬ ro < 0 := by omega
      refine on1 14 rfl fun KK hK => ?_
      go_simp
      refine (HC.out _).mono ?_
      rintro e w4 ⟨rfl, hk⟩
      replace HKX39 := Lib.hid (HKX39.out.trans hk.out)
      clear hk HC
      go_simp
      refine hK.out _ _ (HMK39.out _ HKX39.out) fun hHeld => ?_
      clear hK KK
      (try simp only [nz])
      refine on1 15 rfl fun KK hK => ?_
      go_simp
      refine hK.out _ _ (HMK39.out _ HKX39.out) fun hHeld => ?_
      clear hK KK
      (try simp only [nz])
      refine on1 16 rfl fun KK hK => ?_
      go_simp
      refine hK.out _ _ (HMK39.out _ HKX39.out) fun hHeld => ?_
      clear hK KK
      (try simp only [nz])
      refine on1 17 rfl fun KK hK => ?_
      go_simp
      refine hK.out _ _ (HMK39.out _ HKX39.out) fun hHeld => ?_
      clear hK KK
      (try simp only [nz])
      refine wpAnyH_done (by kernel_rfl) ?_ _
      refine NoPanic.normal ?_
      clear hHeld HMK39
      have e : Hid (R = false) := show R = false by rw [HD.out, rowOk_not stmO HX.out (by have hy := HY.out; rw [show i = m + 1 from HM.out] at hy; exact hy) (of_decide_eq_false HU.out), Bool.false_and]
      have HE : Hid (KF W w4) := HK0.out.trans (HO.out.trans HKX39.out)
      clear HO HKX39
      go_wp2_with fail
      go_ret
      exact ⟨by rw [e.out]; rfl, HE⟩
     case true =>
      have hro : ro < 0 := of_decide_eq_true HCL.out
      have hro2 : ¬ 0 ≤ ro := by omega
      refine on1 14 rfl fun KK hK => ?_
      go_simp
      refine (HC.out _).mono ?_
      rintro e w4 ⟨rfl, hk⟩
      replace HKX39 := Lib.hid (HKX39.out.trans hk.out)
      clear hk HC
      go_simp
      refine hK.out _ _ (HMK39.out _ HKX39.out) fun hHeld => ?_
      clear hK KK
      (try simp only [nz])
      refine on1 15 rfl fun KK hK => ?_
      go_simp
      refine hK.out _ _ (HMK39.out _ HKX39.out) fun hHeld => ?_
      clear hK KK
      (try simp only [nz])
      refine on1 16 rfl fun KK hK => ?_
      go_simp
      refine hK.out _ _ (HMK39.out _ HKX39.out) fun hHeld => ?_
      clear hK KK
      (try simp only [nz])
      refine on1 17 rfl fun KK hK => ?_
      go_simp
      refine hK.out _ _ (HMK39.out _ HKX39.out) fun hHeld => ?_
      clear hK KK
      (try simp only [nz])
      refine wpAnyH_done (by kernel_rfl) ?_ _
      refine NoPanic.normal ?_
      clear hHeld HMK39
      have HN2 : Hid (KF WB w4 ∧ POk stmRB stmLt l0 (i + 1)) := ⟨HO.out.trans HKX39.out, by have hy := HY.out; have q := HIO.out; rw [show i = m + 1 from HM.out] at hy q ⊢; exact q.next HX.out hy HQ.out (of_decide_eq_true HU.out)⟩
      clear HO HKX39 HIO
      go_wp2_with fail
      go_roundg (n0 - (i + 1))
      case measure => omega
      case rel => exact ⟨i + 1, by omega, rfl, by go_num, HN2⟩
  ·obtain rfl : i = n0 := by omega
   have hiI : ¬ (i : Int) < (i : Int) := by omega
   have HB : Hid (R = (b1 && (b2 && (b3 && b4)))) := show R = _ by rw [HD.out, rowOk_yes stmO (by rw [HN0.out]; exact HI.out.2), Bool.true_and]
   have HK1 := Lib.hid (HK0.out.trans HI.out.1)
   obtain ⟨Sc0, Sf0, Sc1, Sf1, Sc2, Sf2, Sc3, Sf3⟩ := cf4 ((HI.out.1.block _ (lt_of_heap HS.out) (fun x => x)).trans HS.out)
   have HS1 := Lib.hid ((HI.out.1.block _ (lt_of_heap HS.out) (fun x => x)).trans HS.out)
   clear HI HS HD HR
   generalize wr = w1 at *
   go_wp2_with fail
   refine (HSG.out _ HK1.out).mono ?_
   rintro e w2 ⟨rfl, hk⟩
   have HK2 : Hid (KF W w2) := HK1.out.trans hk.out
   have HS2 := Lib.hid ((hk.out.block _ (lt_of_heap HS1.out) (fun x => x)).trans HS1.out)
   clear HSG hk HS1 HK1 Sc0 Sf0 Sc1 Sf1 Sc2 Sf2 Sc3 Sf3
   cases b1
   case false =>
    have e : Hid (R = false) := show R = false by rw [HB.out]; simp
    obtain ⟨Sc0, Sf0, Sc1, Sf1, Sc2, Sf2, Sc3, Sf3⟩ := cf4 HS2.out
    go_wp2_with fail
    go_ret
    exact ⟨by rw [e.out]; rfl, HK2⟩
   obtain ⟨Sc0, Sf0, Sc1, Sf1, Sc2, Sf2, Sc3, Sf3⟩ := cf4 HS2.out
   go_wp2_with fail
   refine (HSS.out _ HK2.out).mono ?_
   rintro e w3 ⟨rfl, hk⟩
   have HK3 : Hid (KF W w3) := HK2.out.trans hk.out
   have HS3 := Lib.hid ((hk.out.block _ (lt_of_heap HS2.out) (fun x => x)).trans HS2.out)
   clear HSS hk HS2 HK2 Sc0 Sf0 Sc1 Sf1 Sc2 Sf2 Sc3 Sf3
   cases b2
   case false =>
    have e : Hid (R = false) := show R = false by rw [HB.out]; simp
    obtain ⟨Sc0, Sf0, Sc1, Sf1, Sc2, Sf2, Sc3, Sf3⟩ := cf4 HS3.out
    go_wp2_with fail
    go_ret
    exact ⟨by rw [e.out]; rfl, HK3⟩
   obtain ⟨Sc0, Sf0, Sc1, Sf1, Sc2, Sf2, Sc3, Sf3⟩ := cf4 HS3.out
   go_wp2_with fail
   refine (HCQ.out _ HK3.out).mono ?_
   rintro e w4 ⟨rfl, hk⟩
   have HK4 : Hid (KF W w4) := HK3.out.trans hk.out
   have HS4 := Lib.hid ((hk.out.block _ (lt_of_heap HS3.out) (fun x => x)).trans HS3.out)
   clear HCQ hk HS3 HK3 Sc0 Sf0 Sc1 Sf1 Sc2 Sf2 Sc3 Sf3
   cases b3
   case false =>
    have e : Hid (R = false) := show R = false by rw [HB.out]; simp
    obtain ⟨Sc0, Sf0, Sc1, Sf1, Sc2, Sf2, Sc3, Sf3⟩ := cf4 HS4.out
    go_wp2_with fail
    go_ret
    exact ⟨by rw [e.out]; rfl, HK4⟩
   obtain ⟨Sc0, Sf0, Sc1, Sf1, Sc2, Sf2, Sc3, Sf3⟩ := cf4 HS4.out
   go_wp2_with fail
   refine (HFI.out _ HK4.out).mono ?_
   rintro e w5 ⟨rfl, hk⟩
   have HK5 : Hid (KF W w5) := HK4.out.trans hk.out
   have HS5 := Lib.hid ((hk.out.block _ (lt_of_heap HS4.out) (fun x => x)).trans HS4.out)
   clear HFI hk HS4 HK4 Sc0 Sf0 Sc1 Sf1 Sc2 Sf2 Sc3 Sf3
   have e : Hid (R = b4) := show R = b4 by rw [HB.out]; simp
   go_wp2_with fail
   go_ret
   exact ⟨by rw [e.out]; rfl, HK5⟩
end Go.Proofs.YtckikkkdabpjkaaGreat
