/-
 The library's Clone and Compact at roles.
-/
import Derived.Test.YtcdfpnlaklaafaaGreatStmEql
import Derived.Test.YtcdfpnlaklaafaaGreatCmpPlain
import Derived.Deep.LoopGhost
import Derived.BigQuiet
import Derived.Deep.QuietTactic
import Derived.WalkSpells
set_option linter.unusedVariables false
set_option linter.unusedSimpArgs false
set_option linter.unnecessarySimpa false
namespace Go.Proofs.YtcdfpnlaklaafaaGreat
open Go.ChangeShapes Go.WideShapes Go.ChangeAt Go.RowKit Go.Deep
set_option maxRecDepth 100000
set_option maxHeartbeats 6400000
def OfBR (g : Nat) (v : Value) : Prop := ∀ q, v.ownBlock = some q → q = g
theorem cloneR_spec {W : World} {v : Value} {l : List Rol} (h : SrcK rolE W v l) (hl : l.length ≤ 10000) :
  Calls Tryz.prog 68 #[v] W fun e W' => ∃ v', e = .returned v' ∧ Hid (Keeps (fun _ => False) W W' ∧ OwnK rolE W.heap.size W' v' l) := by
 obtain ⟨⟨ao, cap, rfl, hle, hr⟩, hnil⟩ := id h
 have HS := Lib.hid h
 cases ao with
 | none =>
  have hcap := hnil _ _ rfl
  subst hcap
  obtain rfl : l = [] := List.eq_nil_of_length_eq_zero (by omega)
  have hqn : ∀ (w : World), (binOp .eql 54 (.slice none 0 0) (.slice none 0 0)).run Tryz.prog w = .ok (.bool true) w := fun w => Lib.run_eql_slice_nil w _ 40 none 0 0 0 0 Tryz.underlying54
  clear hr hnil h HS hle
  go_enter Tryz.func68, Tryz.ntmps68
  go_wp2_with fail
  go_ret
  exact ⟨_, rfl, Keeps.refl _ _, ownK_nil rolE _ _⟩
 | some ad =>
  obtain ⟨nl, hnl⟩ : ∃ nl, l.length = nl := ⟨_, rfl⟩
  rw [hnl] at hle hl HS ⊢
  have HN := Lib.hid hnl
  have hqn : ∀ (w : World) (n c : Nat), (binOp .eql 54 (.slice (some ad) n c) (.slice none 0 0)).run Tryz.prog w = .ok (.bool false) w := fun w n c => Lib.run_eql_slice_nil w _ 40 (some ad) n c 0 0 Tryz.underlying54
  clear hr hnil h hnl
  go_enter Tryz.func68, Tryz.ntmps68
  go_wp2_with (at_builtin; refine app_k (E := rolE) rfl _ _ rfl W.heap.size _ [] rfl (ownK_lit rolE (Nat.le_refl _)) _ l rfl (HS.out.keeps ((Keeps.refl _ _).alloc _)) (by have := HN.out; simp <;> omega) (by simp <;> omega) ?_)
  intro rv w4 hro hk4
  (try rw [List.nil_append] at hro)
  have HE : Hid (Keeps (fun _ => False) W w4 ∧ OwnK rolE W.heap.size w4 rv l) := ⟨((Keeps.refl (fun _ => False) W).alloc _).trans_new hk4 (fun q hq e => by simp [Value.ownBlock] at e; omega), hro⟩
  clear hro hk4 HS
  go_wp2_with fail
  go_ret
  exact ⟨_, rfl, HE⟩
theorem compR_none (W : World) : Calls Tryz.prog 71 #[.slice none 0 0] W fun e W' => e = .returned (.slice none 0 0) ∧ W = W' := by
 go_enter Tryz.func71, Tryz.ntmps71
 go_wp2_with fail
 go_ret
 exact ⟨rfl, rfl⟩
theorem compR_spec {W : World} {g cap : Nat} {l : List Rol} (h : HoK rolE W g 0 l) (hle : l.length ≤ cap) (hl : l.length ≤ 10000) (hs : l.Pairwise (fun x y => ¬ rolLt y x)) :
  Calls Tryz.prog 71 #[.slice (some ⟨g, 0, none⟩) l.length cap] W fun e W' => ∃ v', e = .returned v' ∧ Hid (Keeps (fun q => q = g) W W' ∧ SrcK rolE W' v' (sortO rolLt l) ∧ OfBR g v') := by
 have HH := Lib.hid h
 have HSO := Lib.hid hs
 obtain ⟨nl, hnl⟩ : ∃ nl, l.length = nl := ⟨_, rfl⟩
 rw [hnl] at hle hl ⊢
 have HN := Lib.hid hnl
 have HD : Hid (∀ (w : World) (cur : List Rol) (k : Nat), HoK rolE w g 0 cur → k ≤ cur.length → k ≤ cap → cur.take k = sortO rolLt l → SrcK rolE w (.slice (some ⟨g, 0, none⟩) k cap) (sortO rolLt l) ∧ OfBR g (.slice (some ⟨g, 0, none⟩) k cap)) := fun w cur k hc hk hkc e => by
  have hlt : (cur.take k).length = k := by rw [List.length_take]; omega
  have q := (hc.take k).reads (cap := cap) (by omega)
  rw [e, ← e] at q
  rw [hlt] at q
  exact ⟨⟨by rw [← e]; exact q, fun n c e => by simp at e⟩, fun q hq => by simp [Value.ownBlock] at hq; exact hq.symm⟩
 clear h hs hnl
 by_cases h2 : nl < 2
 ·have h2I : (nl : Int) < 2 := by omega
  have HE : Hid (Keeps (fun q => q = g) W W ∧ SrcK rolE W (.slice (some ⟨g, 0, none⟩) nl cap) (sortO rolLt l) ∧ OfBR g (.slice (some ⟨g, 0, none⟩) nl cap)) := by
   refine ⟨Keeps.refl _ _, HD.out W l nl HH.out (by have := HN.out; omega) hle ?_⟩
   rw [List.take_of_length_le (by have := HN.out; omega)]
   refine rise_all rolO (m := 2) ?_ (by have := HN.out; omega)
   have hn := HN.out
   match l, hn with
   | [], _ => simp
   | [a], _ => simp
   | a :: b :: r, hn => simp at hn; omega
  clear HD HH HSO
  go_enter Tryz.func71, Tryz.ntmps71
  go_wp2_with fail
  go_ret
  exact ⟨_, rfl, HE⟩
 ·have h2I : ¬ (nl : Int) < 2 := by omega
  go_enter Tryz.func71, Tryz.ntmps71
  go_wp2_with fail
  go_loopg [3] (nl - 1) (fun gg t wx => ∃ i nq : Nat, i + 1 ≤ nl ∧ gg = nl - (i + 1) ∧ t = .int .i64 ((i : Int) + 1) ∧ wx = W.drewN nq ∧ Hid ((l.take (i + 1)).Pairwise rolLt))
  case atStart => exact ⟨0, 0, by omega, by omega, rfl, rfl, by show List.Pairwise _ _; match l with | [] => simp | a :: r => simp⟩
  case round =>
   obtain ⟨i, nq0, hi, rfl, rfl, rfl, HI⟩ := hrel
   have hw0 : IntKind.i64.wrap ((i : Int) + 1 + 1) = ((i + 1 : Nat) : Int) + 1 := IntWalk.i64_in _ (by omega)
   have hw1 : IntKind.i64.wrap ((i : Int) + 1 - 1) = (i : Int) := by rw [Int.add_sub_cancel]; exact IntWalk.i64_in _ (by omega)
   have hw2 : IntKind.i64.wrap (i : Int) = (i : Int) := IntWalk.i64_in _ (by omega)
   by_cases hlt : i + 1 < nl
   ·have hltI : (i : Int) + 1 < (nl : Int) := by omega
    obtain ⟨x, hx⟩ : ∃ x, l[i + 1]? = some x := ⟨_, List.getElem?_eq_getElem (by rw [HN.out]; exact hlt)⟩
    obtain ⟨y, hy⟩ : ∃ y, l[i]? = some y := ⟨_, List.getElem?_eq_getElem (by rw [HN.out]; omega)⟩
    have hic1 : i + 1 < cap := by omega
    have hic2 : i < cap := by omega
    have hcx := fun c u hu => (HH.out.2 (i + 1) x hx c u hu).1
    have hcy := fun c u hu => (HH.out.2 i y hy c u hu).1
    have HX := Lib.hid hx
    have HY := Lib.hid hy
    clear hx hy
    have HQ := rol_eql x y
    obtain ⟨x1, x2⟩ := x
    obtain ⟨y1, y2⟩ := y
    have p0 : W.cell? ⟨g, (i + 1) * 2, none⟩ = some (.string ⟨x1.toArray⟩) := by
     have q := hcx 0 _ rfl
     rw [Nat.zero_add] at q
     exact q
    have q0 : W.cell? ⟨g, i * 2, none⟩ = some (.string ⟨y1.toArray⟩) := by
     have q := hcy 0 _ rfl
     rw [Nat.zero_add] at q
     exact q
    have p1 : W.cell? ⟨g, (i + 1) * 2 + 1, none⟩ = some (.string ⟨x2.toArray⟩) := by
     have q := hcx 1 _ rfl
     rw [Nat.zero_add] at q
     exact q
    have q1 : W.cell? ⟨g, i * 2 + 1, none⟩ = some (.string ⟨y2.toArray⟩) := by
     have q := hcy 1 _ rfl
     rw [Nat.zero_add] at q
     exact q
    have HQ : ∀ w, (binOp .eql 40 (.agg #[.string ⟨x1.toArray⟩, .string ⟨x2.toArray⟩]) (.agg #[.string ⟨y1.toArray⟩, .string ⟨y2.toArray⟩])).run Tryz.prog w = .ok (.bool (decide ((x1, x2) = (y1, y2)))) w := HQ
    clear hcx hcy
    by_cases e : (x1, x2) = (y1, y2)
    ·rw [decide_eq_true e] at HQ
     have HCI : Hid (CI rolLt l (i + 2) (i + 1) l) := ci_start rolO HI.out HY.out (by rw [HX.out, e])
     clear e HI
     go_wp2_with fail
     go_quiet (fail)
     go_upto_region 9 with fail
     clear HQ p0 q0 p1 q1 HX HY hw0 hw1 hw2
     have HKW : Hid (HoK rolE (W.drewN (nq0 + nq)) g 0 l ∧ Keeps (fun q => q = g) W (W.drewN (nq0 + nq))) := ⟨HH.out.keeps ((Keeps.refl (fun _ => False) _).drewN (nq0 + nq)) (fun x => x), (Keeps.refl _ _).drewN _⟩
     generalize W.drewN (nq0 + nq) = w0 at *
     obtain ⟨ns, hns⟩ : ∃ ns, nl - (i + 1) = ns := ⟨_, rfl⟩
     obtain ⟨cs, hcs⟩ : ∃ cs, cap - (i + 1) = cs := ⟨_, rfl⟩
     rw [hns, hcs]
     have HNS : Hid (nl = i + 1 + ns ∧ cap = i + 1 + cs) := ⟨by omega, by omega⟩
     have hnsl : ns ≤ 10000 := by omega
     have hncs : ns ≤ cs := by omega
     have hnp : 0 < ns := by omega
     clear hns hcs
     go_loopg [3, 5] (nl - (i + 2)) (fun gg t3 t5 wx => ∃ (c k : Nat) (cur : List Rol), i + 2 + c ≤ nl ∧ gg = nl - (i + 2 + c) ∧ t3 = .int .i64 (k : Int) ∧ t5 = .int .i64 ((c : Int) + 1) ∧ Hid (CI rolLt l (i + 2 + c) k cur ∧ HoK rolE wx g 0 cur ∧ Keeps (fun q => q = g) W wx))
     case atStart => exact ⟨0, i + 1, l, by omega, by omega, by first | rfl | go_num, by first | rfl | go_num, HCI.out, HKW.out.1, HKW.out.2⟩
     case round =>
      obtain ⟨c, k, cur, hc, rfl, rfl, rfl, HI⟩ := hrel
      clear HKW HCI
      have hkm := HI.out.1.km
      have hll := HI.out.1.len
      have hv0 : IntKind.i64.wrap ((c : Int) + 1 + 1) = ((c + 1 : Nat) : Int) + 1 := IntWalk.i64_in _ (by omega)
      have hv1 : IntKind.i64.wrap ((c : Int) + 1 - 1) = (c : Int) := by rw [Int.add_sub_cancel]; exact IntWalk.i64_in _ (by omega)
      have hv2 : IntKind.i64.wrap (c : Int) = (c : Int) := IntWalk.i64_in _ (by omega)
      have hv3 : IntKind.i64.wrap ((k : Int) + 1) = ((k + 1 : Nat) : Int) := IntWalk.i64_in _ (by omega)
      by_cases hlt2 : c + 1 < ns
      ·have hltI : (c : Int) + 1 < (ns : Int) := by omega
       have hm : i + 2 + c < nl := by have := HNS.out; omega
       obtain ⟨x, hx⟩ : ∃ x, l[i + 2 + c]? = some x := ⟨_, List.getElem?_eq_getElem (by rw [HN.out]; exact hm)⟩
       obtain ⟨y, hy⟩ : ∃ y, l[i + 1 + c]? = some y := ⟨_, List.getElem?_eq_getElem (by rw [HN.out]; omega)⟩
       obtain ⟨z, hz⟩ : ∃ z, cur[k]? = some z := ⟨_, List.getElem?_eq_getElem (by rw [hll, HN.out]; omega)⟩
       have hx2 : cur[i + 2 + c]? = some x := by rw [HI.out.1.rest _ (by omega)]; exact hx
       have hy2 : cur[i + 1 + c]? = some y := by rw [HI.out.1.rest _ (by omega)]; exact hy
       have e1 : i + 2 + c = (i + 1 + c) + 1 := by omega
       have hcx := fun q u hu => (HI.out.2.1.2 (i + 2 + c) x hx2 q u hu).1
       have hcy := fun q u hu => (HI.out.2.1.2 (i + 1 + c) y hy2 q u hu).1
       have hcz := fun q u hu => HI.out.2.1.2 k z hz q u hu
       have ex : 0 + (i + 2 + c) * rolE.k = (i + 1) * 2 + (c + 1) * 2 := by show 0 + (i + 2 + c) * 2 = _; omega
       have ey : 0 + (i + 1 + c) * rolE.k = (i + 1) * 2 + c * 2 := by show 0 + (i + 1 + c) * 2 = _; omega
       have ez : 0 + k * rolE.k = k * 2 := by show 0 + k * 2 = _; omega
       rw [ex] at hcx
       rw [ey] at hcy
       rw [ez] at hcz
       have hkc : k < cap := by omega
       have hkn : k < nl := by omega
       have hcc1 : c + 1 < cs := by omega
       have hcc2 : c < cs := by omega
       have hcc3 : c < ns := by omega
       have HX := Lib.hid hx
       have HY := Lib.hid hy
       have HCS : Hid (x = y → CI rolLt l (i + 2 + (c + 1)) k cur) := fun e => by
        subst e
        have q := HI.out.1
        rw [show i + 2 + c = (i + 1 + c) + 1 by omega] at q hx
        have r := q.same hy hx
        rw [show i + 2 + (c + 1) = (i + 1 + c) + 2 by omega]
        exact r
       have HCN : Hid (x ≠ y → CI rolLt l (i + 2 + (c + 1)) (k + 1) (cur.set k x)) := fun e => by
        have q := HI.out.1
        rw [show i + 2 + c = (i + 1 + c) + 1 by omega] at q hx
        have r := q.next rolO HSO.out hy hx e
        rw [show i + 2 + (c + 1) = (i + 1 + c) + 2 by omega]
        exact r
       have HPW : Hid (HoK rolE (wr.setCells g (k * 2) (rolEnc x)) g 0 (cur.set k x) ∧ Keeps (fun q => q = g) W (wr.setCells g (k * 2) (rolEnc x))) := by
        have q := HI.out.2.1.put (n := k) (by rw [hll, HN.out]; exact hkn) x
        rw [ez] at q
        exact ⟨q.1, HI.out.2.2.trans q.2⟩
       clear hx hy hx2 hy2 e1 ex ey ez hz hll hkm
       have HQ := rol_neq x y
       obtain ⟨x1, x2⟩ := x
       obtain ⟨y1, y2⟩ := y
       obtain ⟨z1, z2⟩ := z
       have HQ : ∀ w, (binOp .neq 40 (.agg #[.string ⟨x1.toArray⟩, .string ⟨x2.toArray⟩]) (.agg #[.string ⟨y1.toArray⟩, .string ⟨y2.toArray⟩])).run Tryz.prog w = .ok (.bool (!decide ((x1, x2) = (y1, y2)))) w := HQ
       have p0 : wr.cell? ⟨g, (i + 1) * 2 + (c + 1) * 2, none⟩ = some (.string ⟨x1.toArray⟩) := hcx 0 _ rfl
       have q0 : wr.cell? ⟨g, (i + 1) * 2 + c * 2, none⟩ = some (.string ⟨y1.toArray⟩) := hcy 0 _ rfl
       obtain ⟨r0, f0⟩ : wr.cell? ⟨g, k * 2, none⟩ = some (.string ⟨z1.toArray⟩) ∧ wr.frozen? ⟨g, k * 2, none⟩ = false := hcz 0 _ rfl
       have p1 : wr.cell? ⟨g, (i + 1) * 2 + (c + 1) * 2 + 1, none⟩ = some (.string ⟨x2.toArray⟩) := hcx 1 _ rfl
       have q1 : wr.cell? ⟨g, (i + 1) * 2 + c * 2 + 1, none⟩ = some (.string ⟨y2.toArray⟩) := hcy 1 _ rfl
       obtain ⟨r1, f1⟩ : wr.cell? ⟨g, k * 2 + 1, none⟩ = some (.string ⟨z2.toArray⟩) ∧ wr.frozen? ⟨g, k * 2 + 1, none⟩ = false := hcz 1 _ rfl
       clear hcx hcy hcz
       by_cases e : (x1, x2) = (y1, y2)
       ·rw [decide_eq_true e] at HQ
        have HN2 : Hid (CI rolLt l (i + 2 + (c + 1)) k cur ∧ HoK rolE wr g 0 cur ∧ Keeps (fun q => q = g) W wr) := ⟨HCS.out e, HI.out.2⟩
        clear e HCS HCN HPW HI HX HY
        go_wp2_with fail
        go_quiet (fail)
        have HN3 : Hid (CI rolLt l (i + 2 + (c + 1)) k cur ∧ HoK rolE (wr.drewN nq) g 0 cur ∧ Keeps (fun q => q = g) W (wr.drewN nq)) := ⟨HN2.out.1, HN2.out.2.1.keeps ((Keeps.refl (fun _ => False) _).drewN nq) (fun x => x), HN2.out.2.2.drewN nq⟩
        go_wp2_with fail
        go_roundg (nl - (i + 2 + (c + 1)))
        case measure => omega
        case rel => exact ⟨c + 1, k, cur, by omega, rfl, rfl, by first | rfl | go_num, HN3⟩
       ·rw [decide_eq_false e] at HQ
        have HN2 : Hid (CI rolLt l (i + 2 + (c + 1)) (k + 1) (cur.set k (x1, x2))) := HCN.out e
        clear e HCS HCN HX HY
        go_wp2_with fail
        go_quiet (fail)
        go_upto_region 12 with fail
        have hkd : Keeps (fun _ => False) wr (wr.drewN nq) := (Keeps.refl _ _).drewN nq
        have HI3 : Hid (HoK rolE (wr.drewN nq) g 0 cur ∧ Keeps (fun q => q = g) W (wr.drewN nq)) := ⟨HI.out.2.1.keeps hkd (fun x => x), HI.out.2.2.drewN nq⟩
        have HP3 : Hid (HoK rolE ((wr.drewN nq).setCells g (k * 2) (rolEnc (x1, x2))) g 0 (cur.set k (x1, x2)) ∧ Keeps (fun q => q = g) W ((wr.drewN nq).setCells g (k * 2) (rolEnc (x1, x2)))) := by
         have q := HI3.out.1.put (n := k) (by rw [HI.out.1.len, HN.out]; exact hkn) (x1, x2)
         rw [show 0 + k * rolE.k = k * 2 by show 0 + k * 2 = _; omega] at q
         exact ⟨q.1, HI3.out.2.trans q.2⟩
        have s0 : (wr.drewN nq).cell? ⟨g, (i + 1) * 2 + (c + 1) * 2, none⟩ = some (.string ⟨x1.toArray⟩) := p0
        have t0 : (wr.drewN nq).cell? ⟨g, k * 2, none⟩ = some (.string ⟨z1.toArray⟩) := r0
        have v0 : (wr.drewN nq).frozen? ⟨g, k * 2, none⟩ = false := f0
        have s1 : (wr.drewN nq).cell? ⟨g, (i + 1) * 2 + (c + 1) * 2 + 1, none⟩ = some (.string ⟨x2.toArray⟩) := p1
        have t1 : (wr.drewN nq).cell? ⟨g, k * 2 + 1, none⟩ = some (.string ⟨z2.toArray⟩) := r1
        have v1 : (wr.drewN nq).frozen? ⟨g, k * 2 + 1, none⟩ = false := f1
        clear HPW HI HI3 HQ hkd p0 q0 r0 f0 p1 q1 r1 f1
        generalize wr.drewN nq = w5 at *
        go_wp2_with fail
        go_roundg (nl - (i + 2 + (c + 1)))
        case measure => omega
        case rel => exact ⟨c + 1, k + 1, cur.set k (x1, x2), by omega, rfl, by first | rfl | go_num, by first | rfl | go_num, ⟨HN2.out, HP3.out⟩⟩
      ·have hce : i + 2 + c = nl := by have := HNS.out; omega
       have hltI : ¬ (c : Int) + 1 < (ns : Int) := by omega
       have hkc : k < cap := by omega
       have hkn : k < nl := by omega
       have hkc2 : k ≤ cap := by omega
       have hkc3 : ¬ (cap = k) := by omega
       have hcl : ∀ (ty : TypeId) (c' : Nat), (Builtin.clear_ #[54] ty #[.slice (some ⟨g, k * 2, none⟩) (nl - k) c']).run Tryz.prog wr = .ok (.tuple #[]) (wr.setCells g (k * 2) (rolZero (nl - k))) := fun ty c' => by
        have q := rol_clear HI.out.2.1 (n := k) (by rw [hll, HN.out]; exact hkn) ty c'
        rw [hll, HN.out] at q
        exact q
       have HE : Hid (Keeps (fun q => q = g) W (wr.setCells g (k * 2) (rolZero (nl - k))) ∧ SrcK rolE (wr.setCells g (k * 2) (rolZero (nl - k))) (.slice (some ⟨g, 0, none⟩) k cap) (sortO rolLt l) ∧ OfBR g (.slice (some ⟨g, 0, none⟩) k cap)) := by
        have q := HI.out.2.1.past k (rolZero (nl - k))
        have hlk : (cur.take k).length = k := by rw [List.length_take]; have := HN.out; omega
        have hd := HI.out.1.done rolO (by rw [HN.out]; omega)
        exact ⟨HI.out.2.2.trans q.2, HD.out _ (cur.take k) k q.1 (by omega) hkc2 (by rw [List.take_take, Nat.min_self]; exact hd)⟩
       clear HI HD HH HSO hv0 hv1 hv2 hv3 hll hkm
       go_wp2_with (simp only [hcl])
       go_ret
       exact ⟨_, rfl, HE⟩
    ·rw [decide_eq_false e] at HQ
     have HN2 : Hid ((l.take (i + 1 + 1)).Pairwise rolLt) := rise_step rolO HSO.out HI.out HY.out HX.out e
     clear e HI
     go_wp2_with fail
     go_quiet (fail)
     go_wp2_with fail
     go_roundg (nl - (i + 1 + 1))
     case measure => omega
     case rel => exact ⟨i + 1, _, by omega, rfl, by first | rfl | go_num, rfl, HN2⟩
   ·obtain rfl : nl = i + 1 := by omega
    have hltI : ¬ (i : Int) + 1 < (i : Int) + 1 := by omega
    have HE : Hid (∀ nq, Keeps (fun q => q = g) W (W.drewN nq) ∧ SrcK rolE (W.drewN nq) (.slice (some ⟨g, 0, none⟩) (i + 1) cap) (sortO rolLt l) ∧ OfBR g (.slice (some ⟨g, 0, none⟩) (i + 1) cap)) := fun nq => by
     refine ⟨(Keeps.refl _ _).drewN _, HD.out _ l (i + 1) (HH.out.keeps ((Keeps.refl (fun _ => False) _).drewN nq) (fun x => x)) (by have := HN.out; omega) hle ?_⟩
     rw [List.take_of_length_le (by have := HN.out; omega)]
     exact rise_all rolO HI.out (by have := HN.out; omega)
    clear HD HI HH HSO
    go_wp2_with fail
    go_ret
    exact ⟨_, rfl, HE.out _⟩
end Go.Proofs.YtcdfpnlaklaafaaGreat
