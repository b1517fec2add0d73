/-
 The document's Roles of a policy.
-/
import Derived.Test.YtededjfjbkcepaaGreatMC
import Derived.Test.YtededjfjbkcepaaGreatPolSame
import Derived.Test.YtededjfjbkcepaaGreatMA
set_option linter.unusedVariables false
set_option linter.unusedSimpArgs false
set_option linter.unnecessarySimpa false
namespace Go.Proofs.YtededjfjbkcepaaGreat
open Go.ChangeShapes Go.WideShapes Go.ChangeAt Go.RowKit Go.Deep
/-- No row of a policy is long. -/
def FewR (p : Pol) : Prop := p.1.length ≤ 100 ∧ p.2.1.length ≤ 100 ∧ p.2.2.1.length ≤ 100 ∧ p.2.2.2.length ≤ 100 ∧ ∀ q ∈ p.2.2.2, q.2.2.2.length ≤ 20
theorem rolesS_len (x : Stm) : (rolesS x).length ≤ 3 := by
 unfold rolesS
 split <;> split <;> simp
theorem rolesQ_len (x : Qry) : (rolesQ x).length ≤ 2 := by
 unfold rolesQ
 split <;> simp
theorem flat_len_le {α β : Type} {f : α → List β} {m : Nat} (h : ∀ x, (f x).length ≤ m) : ∀ l : List α, (l.flatMap f).length ≤ m * l.length
 | [] => Nat.zero_le _
 | x :: l => by
  have := h x
  have := flat_len_le h l
  rw [List.flatMap_cons, List.length_append, List.length_cons, Nat.mul_succ]
  omega
theorem flat_next {α β : Type} (f : α → List β) {l : List α} {i : Nat} {y : α} (h : l[i]? = some y) : (l.take (i + 1)).flatMap f = (l.take i).flatMap f ++ f y := by
 rw [List.take_add_one, h, List.flatMap_append]
 simp
section
variable {α : Type} {E : Elt α}
/-- As app_fp, with a name for the new row and one for how long it is. -/
theorem app_as {ops : Array Oper} {rest : List Oper} {o : Oper} {a : Act} {Q : Exit → Act → World → Prop} {w : World} (hgd : o.guard = none) (s x : Operand)
 (ho : o.op = .call { callee := .builtin .append, args := #[s, x], argTypes := #[E.S, E.S] })
 (base : Nat) (v : Value) (l : List α) (hs : a.eval s = v) (hown : OwnK E base w v l) (xv : Value) (m : List α) (hx : a.eval x = xv) (hr : RdK E w xv m) (hm : 0 < m.length) (hlen : l.length + m.length ≤ 100000) (hbase : base ≤ w.heap.size)
 (r : List α) (n : Nat) (hlm : l ++ m = r) (hn : r.length = n)
 (hK : ∀ ao' cap' w', OwnK E base w' (.slice ao' n cap') r → Keeps (fun q => v.ownBlock = some q) w w' → (∀ k, (Value.slice ao' n cap').ownBlock = some k → v.ownBlock = some k ∨ w.heap.size ≤ k) → wpList Tryz.prog ops Q rest (a.put o.dst (.slice ao' n cap')) w') : wpList Tryz.prog ops Q (o :: rest) a w := by
 subst hlm hn
 exact app_fp (E := E) hgd s x ho base v l hs hown xv m hx hr hm hlen hbase hK
end
theorem own_not {α : Type} {E : Elt α} {lo : Nat} {w : World} {v : Value} {l : List α} {b : Nat} (h : OwnK E lo w v l) (hb : w.heap.size ≤ b) : ∀ k, v.ownBlock = some k → k ≠ b := fun k hk e => by have := own_lt h k hk; omega
set_option maxRecDepth 100000
set_option maxHeartbeats 6400000
theorem rroles_spec {W : World} {v0 v1 v2 v3 : Value} {p : Pol} {P : Nat → Prop} (h : PolX W v0 v1 v2 v3 p P) (hl : FewR p) :
 Calls Tryz.prog 92 #[.agg #[v0, v1, v2, v3]] W fun e W' => ∃ v', e = .returned v' ∧ Hid (KF W W' ∧ RdK rolE W' v' (rolesL p)) := by
 obtain ⟨l0, l1, l2, l3⟩ := p
 obtain ⟨hl0, hl1, hl2, hl3, hlw⟩ := hl
 simp only at hl0 hl1 hl2 hl3 hlw
 obtain ⟨h0, h1, h2, h3⟩ := h
 simp only at h0 h1 h2 h3
 obtain ⟨lv, hlv, h3r, h3q⟩ := id h3
 obtain ⟨ao0, cp0, hv0, hle0, hr0⟩ := id h0.1.1
 obtain ⟨ao1, cp1, hv1, hle1, hr1⟩ := id h1.1.1
 obtain ⟨ao2, cp2, hv2, hle2, hr2⟩ := id h2.1.1
 obtain ⟨ao3, cp3, hv3, hle3, hr3⟩ := id h3r.1.1
 subst hv0 hv1 hv2 hv3
 clear hr0 hr1 hr2 hr3
 obtain ⟨n0, hn0⟩ : ∃ n, l0.length = n := ⟨_, rfl⟩
 obtain ⟨n1, hn1⟩ : ∃ n, l1.length = n := ⟨_, rfl⟩
 obtain ⟨n2, hn2⟩ : ∃ n, l2.length = n := ⟨_, rfl⟩
 obtain ⟨n3, hn3⟩ : ∃ n, l3.length = n := ⟨_, rfl⟩
 rw [hn0] at h0 hle0 hl0 ⊢
 rw [hn1] at h1 hle1 hl1 ⊢
 rw [hn2] at h2 hle2 hl2 ⊢
 rw [hn3] at hlv hl3
 rw [hlv] at h3 h3r hle3 ⊢
 have HN0 := Lib.hid hn0
 have HN1 := Lib.hid hn1
 have HN2 := Lib.hid hn2
 have HN3 := Lib.hid hn3
 have HLV := Lib.hid hlv
 have HLW := Lib.hid hlw
 have ha := (MapKept.heap_alloc W (bP ao0 n0 cp0 ao1 n1 cp1 ao2 n2 cp2 ao3 n3 cp3)).1
 obtain ⟨WB, hWB⟩ : ∃ q, W.alloc (bP ao0 n0 cp0 ao1 n1 cp1 ao2 n2 cp2 ao3 n3 cp3) = q := ⟨_, rfl⟩
 have hkA : KF W WB := by rw [← hWB]; exact (Keeps.refl _ _).alloc _
 rw [hWB] at ha
 have HS := Lib.hid ha
 have HK0 := Lib.hid hkA
 have HV0 : Hid (RdK stmE WB (.slice ao0 n0 cp0) l0) := h0.1.1.keeps hkA
 have HV1 : Hid (RdK rolE WB (.slice ao1 n1 cp1) l1) := h1.1.1.keeps hkA
 have HV2 : Hid (RdK rolE WB (.slice ao2 n2 cp2) l2) := h2.1.1.keeps hkA
 have HV3 : Hid (RdK qE WB (.slice ao3 n3 cp3) lv) := h3r.1.1.keeps hkA
 have HQ : Hid (∀ (j : Nat) (q : Qry) (qv : QV), l3[j]? = some q → lv[j]? = some qv → RelX W qv q P) := h3q
 obtain ⟨LB, hLB⟩ : ∃ q, WB.heap.size = q := ⟨_, rfl⟩
 have HLB := Lib.hid hLB
 clear ha hkA h0 h1 h2 h3 h3r h3q hlv hn0 hn1 hn2 hn3 hlw hLB
 have HRL : Hid (rolesL (l0, l1, l2, l3) = l0.flatMap rolesS ++ l1 ++ l2 ++ l3.flatMap rolesQ) := rfl
 generalize rolesL (l0, l1, l2, l3) = res at *
 have HM0 : Hid (∀ i, ((l0.take i).flatMap rolesS).length ≤ 3 * i) := fun i => by have := flat_len_le rolesS_len (l0.take i); rw [List.length_take] at this; omega
 have HM3 : Hid (∀ i, ((l3.take i).flatMap rolesQ).length ≤ 2 * i) := fun i => by have := flat_len_le rolesQ_len (l3.take i); rw [List.length_take] at this; omega
 go_enter Tryz.func92, Tryz.ntmps92
 go_upto_region 1 with fail
 clear hWB
 obtain ⟨Sc0, Sf0, Sc1, Sf1, Sc2, Sf2, Sc3, Sf3⟩ := cf4 HS.out
 have HST : Hid (KF WB WB ∧ OwnK rolE LB WB (.slice none 0 0) ([] ++ (l0.take 0).flatMap rolesS)) := ⟨Keeps.refl _ _, ownK_nil rolE _ _⟩
 go_wp2_with fail
 go_loopg [3, 15] n0 (fun g ov t wx => ∃ i : Nat, i ≤ n0 ∧ g = n0 - i ∧ t = .int .i64 i ∧ Hid (KF WB wx ∧ OwnK rolE LB wx ov ([] ++ (l0.take i).flatMap rolesS)))
 case atStart => exact ⟨0, Nat.zero_le _, rfl, rfl, HST⟩
 case round =>
  obtain ⟨i, hi, rfl, rfl, HI⟩ := hrel
  clear HST Sc0 Sf0 Sc1 Sf1 Sc2 Sf2 Sc3 Sf3
  by_cases hlt : i < n0
  ·skip
   have hiI : (i : Int) < (n0 : Int) := by omega
   have hwi : IntKind.i64.wrap ((i : Int) + 1) = (i : Int) + 1 := IntWalk.i64_in _ (by omega)
   have hrd := HV0.out.keeps HI.out.1
   obtain ⟨aoz, cpz, ez, hez, hrz⟩ := hrd
   have hll : l0.length = n0 := by simpa using (Value.slice.inj ez).2.1.symm
   obtain ⟨y, hy⟩ : ∃ y, l0[i]? = some y := ⟨_, List.getElem?_eq_getElem (by rw [hll]; exact hlt)⟩
   obtain ⟨g, off, hao, hg, hcc⟩ := hrz (by omega)
   simp only [Value.slice.injEq] at ez
   obtain ⟨rfl, hzz, rfl⟩ := ez
   subst hao
   have hicap : i < cp0 := by omega
   have hc := hcc i y hy
   have HY := Lib.hid hy
   obtain ⟨⟨yh1, yh2⟩, yk, yo, ⟨ya1, ya2⟩, ⟨yb1, yb2⟩, yi⟩ := y
   clear hcc hrz hez hzz hy hll
   obtain ⟨c0, c1, c2, c3, c4, c5, c6, c7, c8⟩ := n9 hc
   clear hc
   have hal := (MapKept.heap_alloc wr (bM yk yh1 yh2 yo ya1 ya2 yb1 yb2 yi)).1
   have hka : KF wr (wr.alloc (bM yk yh1 yh2 yo ya1 ya2 yb1 yb2 yi)) := (Keeps.refl _ _).alloc _
   obtain ⟨b, hb⟩ : ∃ b, wr.heap.size = b := ⟨_, rfl⟩
   rw [hb] at hal
   have HB := Lib.hid hal
   have hnx := flat_next rolesS HY.out
   have hm3 := HM0.out i
   obtain ⟨acc, hacc⟩ : ∃ q, [] ++ (l0.take i).flatMap rolesS = q := ⟨_, rfl⟩
   have HNX : Hid ([] ++ (l0.take (i + 1)).flatMap rolesS = acc ++ rolesS ((yh1, yh2), yk, yo, (ya1, ya2), (yb1, yb2), yi)) := by show _ = _; rw [hnx, ← List.append_assoc, hacc]
   have hac : acc.length ≤ 3 * i := by rw [← hacc, List.nil_append]; omega
   rw [hacc] at HI
   clear hnx hacc hm3
   have HO : Hid (KF WB (wr.alloc (bM yk yh1 yh2 yo ya1 ya2 yb1 yb2 yi)) ∧ OwnK rolE LB (wr.alloc (bM yk yh1 yh2 yo ya1 ya2 yb1 yb2 yi)) u3 acc ∧ ∀ k, u3.ownBlock = some k → k ≠ b) := ⟨HI.out.1.trans hka, HI.out.2.keeps hka (fun _ _ x => x), own_not HI.out.2 (Nat.le_of_eq hb)⟩
   go_upto_region 5 with fail
   clear hal hka hb HI HY c0 c1 c2 c3 c4 c5 c6 c7 c8
   generalize wr.alloc (bM yk yh1 yh2 yo ya1 ya2 yb1 yb2 yi) = w1 at *
   obtain ⟨p0, f0, p1, f1, p2, f2, p3, f3, p4, f4, p5, f5, p6, f6, p7, f7, p8, f8⟩ := cf9 HB.out
   have hlo1 : LB ≤ w1.heap.size := by have := HO.out.1.size; have := HLB.out; omega
   obtain ⟨ac1, hac1⟩ : ∃ q, acc ++ [(yh1, yh2)] = q := ⟨_, rfl⟩
   have han1 : ac1.length = acc.length + 1 := by rw [← hac1]; simp
   obtain ⟨na1, hna1⟩ : ∃ q, ac1.length = q := ⟨_, rfl⟩
   go_wp2_with (at_builtin; refine app_as (E := rolE) rfl _ _ rfl LB _ acc rfl (HO.out.2.1.keeps ((Keeps.refl (fun _ => False) _).alloc _) (fun _ _ x => x)) _ [(yh1, yh2)] rfl (one_srcK rolE w1 (yh1, yh2) #[.string ⟨yh1.toArray⟩, .string ⟨yh2.toArray⟩] rfl).1 (by simp) (by simp; omega) (by simp; omega) ac1 na1 hac1 hna1 ?_)
   intro xo1 xc1 wn1 ho hk hf
   have hkx : KF w1 (w1.alloc (bR yh1 yh2)) := (Keeps.refl _ _).alloc _
   generalize (w1.alloc (bR yh1 yh2)) = wx1 at *
   generalize Value.slice xo1 na1 xc1 = vn1 at *
   have hb1 := lt_of_heap HB.out
   have hsx := hkx.size
   replace HB : Hid (wn1.heap[b]? = some (bM yk yh1 yh2 yo ya1 ya2 yb1 yb2 yi)) := (hk.block b (Nat.lt_of_lt_of_le hb1 hsx) (fun e => HO.out.2.2 b e rfl)).trans ((hkx.block b hb1 (fun x => x)).trans HB.out)
   replace HO : Hid (KF WB wn1 ∧ OwnK rolE LB wn1 vn1 ac1 ∧ ∀ k, vn1.ownBlock = some k → k ≠ b) := ⟨(HO.out.1.trans hkx).trans_new hk (fun q hq e => by have := own_block HO.out.2.1 q e; have := HLB.out; omega), ho, fun k hk2 => by
    rcases hf k hk2 with q | q
    ·exact HO.out.2.2 k q
    ·omega⟩
   replace HNX : Hid (ac1 = acc ++ [(yh1, yh2)] ∧ _) := ⟨hac1.symm, HNX.out⟩
   clear ho hk hf hkx hb1 hsx hlo1 hna1 hac1
   clear p0 f0 p1 f1 p2 f2 p3 f3 p4 f4 p5 f5 p6 f6 p7 f7 p8 f8
   obtain ⟨p0, f0, p1, f1, p2, f2, p3, f3, p4, f4, p5, f5, p6, f6, p7, f7, p8, f8⟩ := cf9 HB.out
   have hkk : yk < 2 ∨ 4 < yk ∨ (2 ≤ yk ∧ yk ≤ 3) ∨ yk = 4 := by omega
   rcases hkk with hk1 | hk1 | hk1 | hk1
   ·have k2 : ¬ (2 : Int) ≤ yk := by omega
    have k4 : ¬ yk = 4 := by omega
    have HN2 : Hid (KF WB wn1 ∧ OwnK rolE LB wn1 vn1 ([] ++ (l0.take (i + 1)).flatMap rolesS)) := ⟨HO.out.1, by
     have e : [] ++ (l0.take (i + 1)).flatMap rolesS = ac1 := by
      have q := HNX.out
      (try simp only [rolesS, k2, k4, false_and, if_false, List.append_nil, List.nil_append] at q)
      simp only [q, List.append_assoc, List.nil_append, List.cons_append]
     rw [e]; exact HO.out.2.1⟩
    clear HNX
    clear HO HB
    go_wp2_with fail
    go_roundg (n0 - (i + 1))
    case measure => omega
    case rel => exact ⟨i + 1, by omega, rfl, by go_num, HN2⟩
   ·have k2 : (2 : Int) ≤ yk := by omega
    have k3 : ¬ yk ≤ 4 := by omega
    have k4 : ¬ yk = 4 := by omega
    have HN2 : Hid (KF WB wn1 ∧ OwnK rolE LB wn1 vn1 ([] ++ (l0.take (i + 1)).flatMap rolesS)) := ⟨HO.out.1, by
     have e : [] ++ (l0.take (i + 1)).flatMap rolesS = ac1 := by
      have q := HNX.out
      (try simp only [rolesS, k3, k4, and_false, if_false, List.append_nil, List.nil_append] at q)
      simp only [q, List.append_assoc, List.nil_append, List.cons_append]
     rw [e]; exact HO.out.2.1⟩
    clear HNX
    clear HO HB
    go_wp2_with fail
    go_roundg (n0 - (i + 1))
    case measure => omega
    case rel => exact ⟨i + 1, by omega, rfl, by go_num, HN2⟩
   ·have k2 : (2 : Int) ≤ yk := by omega
    have k3 : yk ≤ 4 := by omega
    have k4 : ¬ yk = 4 := by omega
    have hlo2 : LB ≤ wn1.heap.size := by have := HO.out.1.size; have := HLB.out; omega
    obtain ⟨ac2, hac2⟩ : ∃ q, ac1 ++ [(ya1, ya2)] = q := ⟨_, rfl⟩
    have han2 : ac2.length = ac1.length + 1 := by rw [← hac2]; simp
    obtain ⟨na2, hna2⟩ : ∃ q, ac2.length = q := ⟨_, rfl⟩
    go_wp2_with (at_builtin; refine app_as (E := rolE) rfl _ _ rfl LB _ ac1 rfl (HO.out.2.1.keeps ((Keeps.refl (fun _ => False) _).alloc _) (fun _ _ x => x)) _ [(ya1, ya2)] rfl (one_srcK rolE wn1 (ya1, ya2) #[.string ⟨ya1.toArray⟩, .string ⟨ya2.toArray⟩] rfl).1 (by simp) (by simp; omega) (by simp; omega) ac2 na2 hac2 hna2 ?_)
    intro xo2 xc2 wn2 ho hk hf
    have hkx : KF wn1 (wn1.alloc (bR ya1 ya2)) := (Keeps.refl _ _).alloc _
    generalize (wn1.alloc (bR ya1 ya2)) = wx2 at *
    generalize Value.slice xo2 na2 xc2 = vn2 at *
    have hb1 := lt_of_heap HB.out
    have hsx := hkx.size
    replace HB : Hid (wn2.heap[b]? = some (bM yk yh1 yh2 yo ya1 ya2 yb1 yb2 yi)) := (hk.block b (Nat.lt_of_lt_of_le hb1 hsx) (fun e => HO.out.2.2 b e rfl)).trans ((hkx.block b hb1 (fun x => x)).trans HB.out)
    replace HO : Hid (KF WB wn2 ∧ OwnK rolE LB wn2 vn2 ac2 ∧ ∀ k, vn2.ownBlock = some k → k ≠ b) := ⟨(HO.out.1.trans hkx).trans_new hk (fun q hq e => by have := own_block HO.out.2.1 q e; have := HLB.out; omega), ho, fun k hk2 => by
     rcases hf k hk2 with q | q
     ·exact HO.out.2.2 k q
     ·omega⟩
    replace HNX : Hid (ac2 = ac1 ++ [(ya1, ya2)] ∧ _) := ⟨hac2.symm, HNX.out⟩
    clear ho hk hf hkx hb1 hsx hlo2 hna2 hac2
    clear p0 f0 p1 f1 p2 f2 p3 f3 p4 f4 p5 f5 p6 f6 p7 f7 p8 f8
    obtain ⟨p0, f0, p1, f1, p2, f2, p3, f3, p4, f4, p5, f5, p6, f6, p7, f7, p8, f8⟩ := cf9 HB.out
    have HN2 : Hid (KF WB wn2 ∧ OwnK rolE LB wn2 vn2 ([] ++ (l0.take (i + 1)).flatMap rolesS)) := ⟨HO.out.1, by
     have e : [] ++ (l0.take (i + 1)).flatMap rolesS = ac2 := by
      have q := HNX.out
      (try simp only [rolesS, k2, k3, k4, and_self, if_true, if_false, List.append_nil] at q)
      simp only [q, List.append_assoc, List.nil_append, List.cons_append]
     rw [e]; exact HO.out.2.1⟩
    clear HNX
    clear HO HB
    go_wp2_with fail
    go_roundg (n0 - (i + 1))
    case measure => omega
    case rel => exact ⟨i + 1, by omega, rfl, by go_num, HN2⟩
   ·subst hk1
    have hlo3 : LB ≤ wn1.heap.size := by have := HO.out.1.size; have := HLB.out; omega
    obtain ⟨ac3, hac3⟩ : ∃ q, ac1 ++ [(ya1, ya2)] = q := ⟨_, rfl⟩
    have han3 : ac3.length = ac1.length + 1 := by rw [← hac3]; simp
    obtain ⟨na3, hna3⟩ : ∃ q, ac3.length = q := ⟨_, rfl⟩
    go_wp2_with (at_builtin; refine app_as (E := rolE) rfl _ _ rfl LB _ ac1 rfl (HO.out.2.1.keeps ((Keeps.refl (fun _ => False) _).alloc _) (fun _ _ x => x)) _ [(ya1, ya2)] rfl (one_srcK rolE wn1 (ya1, ya2) #[.string ⟨ya1.toArray⟩, .string ⟨ya2.toArray⟩] rfl).1 (by simp) (by simp; omega) (by simp; omega) ac3 na3 hac3 hna3 ?_)
    intro xo3 xc3 wn3 ho hk hf
    have hkx : KF wn1 (wn1.alloc (bR ya1 ya2)) := (Keeps.refl _ _).alloc _
    generalize (wn1.alloc (bR ya1 ya2)) = wx3 at *
    generalize Value.slice xo3 na3 xc3 = vn3 at *
    have hb1 := lt_of_heap HB.out
    have hsx := hkx.size
    replace HB : Hid (wn3.heap[b]? = some (bM 4 yh1 yh2 yo ya1 ya2 yb1 yb2 yi)) := (hk.block b (Nat.lt_of_lt_of_le hb1 hsx) (fun e => HO.out.2.2 b e rfl)).trans ((hkx.block b hb1 (fun x => x)).trans HB.out)
    replace HO : Hid (KF WB wn3 ∧ OwnK rolE LB wn3 vn3 ac3 ∧ ∀ k, vn3.ownBlock = some k → k ≠ b) := ⟨(HO.out.1.trans hkx).trans_new hk (fun q hq e => by have := own_block HO.out.2.1 q e; have := HLB.out; omega), ho, fun k hk2 => by
     rcases hf k hk2 with q | q
     ·exact HO.out.2.2 k q
     ·omega⟩
    replace HNX : Hid (ac3 = ac1 ++ [(ya1, ya2)] ∧ _) := ⟨hac3.symm, HNX.out⟩
    clear ho hk hf hkx hb1 hsx hlo3 hna3 hac3
    clear p0 f0 p1 f1 p2 f2 p3 f3 p4 f4 p5 f5 p6 f6 p7 f7 p8 f8
    obtain ⟨p0, f0, p1, f1, p2, f2, p3, f3, p4, f4, p5, f5, p6, f6, p7, f7, p8, f8⟩ := cf9 HB.out
    have hlo4 : LB ≤ wn3.heap.size := by have := HO.out.1.size; have := HLB.out; omega
    obtain ⟨ac4, hac4⟩ : ∃ q, ac3 ++ [(yb1, yb2)] = q := ⟨_, rfl⟩
    have han4 : ac4.length = ac3.length + 1 := by rw [← hac4]; simp
    obtain ⟨na4, hna4⟩ : ∃ q, ac4.length = q := ⟨_, rfl⟩
    go_wp2_with (at_builtin; refine app_as (E := rolE) rfl _ _ rfl LB _ ac3 rfl (HO.out.2.1.keeps ((Keeps.refl (fun _ => False) _).alloc _) (fun _ _ x => x)) _ [(yb1, yb2)] rfl (one_srcK rolE wn3 (yb1, yb2) #[.string ⟨yb1.toArray⟩, .string ⟨yb2.toArray⟩] rfl).1 (by simp) (by simp; omega) (by simp; omega) ac4 na4 hac4 hna4 ?_)
    intro xo4 xc4 wn4 ho hk hf
    have hkx : KF wn3 (wn3.alloc (bR yb1 yb2)) := (Keeps.refl _ _).alloc _
    generalize (wn3.alloc (bR yb1 yb2)) = wx4 at *
    generalize Value.slice xo4 na4 xc4 = vn4 at *
    have hb1 := lt_of_heap HB.out
    have hsx := hkx.size
    replace HB : Hid (wn4.heap[b]? = some (bM 4 yh1 yh2 yo ya1 ya2 yb1 yb2 yi)) := (hk.block b (Nat.lt_of_lt_of_le hb1 hsx) (fun e => HO.out.2.2 b e rfl)).trans ((hkx.block b hb1 (fun x => x)).trans HB.out)
    replace HO : Hid (KF WB wn4 ∧ OwnK rolE LB wn4 vn4 ac4 ∧ ∀ k, vn4.ownBlock = some k → k ≠ b) := ⟨(HO.out.1.trans hkx).trans_new hk (fun q hq e => by have := own_block HO.out.2.1 q e; have := HLB.out; omega), ho, fun k hk2 => by
     rcases hf k hk2 with q | q
     ·exact HO.out.2.2 k q
     ·omega⟩
    replace HNX : Hid (ac4 = ac3 ++ [(yb1, yb2)] ∧ _) := ⟨hac4.symm, HNX.out⟩
    clear ho hk hf hkx hb1 hsx hlo4 hna4 hac4
    clear p0 f0 p1 f1 p2 f2 p3 f3 p4 f4 p5 f5 p6 f6 p7 f7 p8 f8
    obtain ⟨p0, f0, p1, f1, p2, f2, p3, f3, p4, f4, p5, f5, p6, f6, p7, f7, p8, f8⟩ := cf9 HB.out
    have HN2 : Hid (KF WB wn4 ∧ OwnK rolE LB wn4 vn4 ([] ++ (l0.take (i + 1)).flatMap rolesS)) := ⟨HO.out.1, by
     have e : [] ++ (l0.take (i + 1)).flatMap rolesS = ac4 := by
      have q := HNX.out
      (try simp only [rolesS, Int.reduceLE, and_self, if_true] at q)
      simp only [q, List.append_assoc, List.nil_append, List.cons_append]
     rw [e]; exact HO.out.2.1⟩
    clear HNX
    clear HO HB
    go_wp2_with fail
    go_roundg (n0 - (i + 1))
    case measure => omega
    case rel => exact ⟨i + 1, by omega, rfl, by go_num, HN2⟩
  ·obtain rfl : n0 = i := by omega
   have hiI : ¬ (n0 : Int) < (n0 : Int) := by omega
   obtain ⟨m1, hm1⟩ : ∃ q, [] ++ l0.flatMap rolesS = q := ⟨_, rfl⟩
   have Hm1 : Hid (m1.length ≤ 300) := by
    show _ ≤ _
    rw [← hm1, List.length_append]
    have := HM0.out n0; rw [List.take_of_length_le (by rw [HN0.out]; exact Nat.le_refl _)] at this; simp only [List.length_nil]; omega
   have hpp : m1 ++ l1.take 0 = [] ++ (l0.take n0).flatMap rolesS := by
    rw [List.take_of_length_le (l := l0) (by rw [HN0.out]; exact Nat.le_refl _), hm1]
    simp
   have HST : Hid (KF WB wr ∧ OwnK rolE LB wr u3 (m1 ++ l1.take 0)) := ⟨HI.out.1, by rw [hpp]; exact HI.out.2⟩
   have HEm1 := Lib.hid hm1
   clear hpp hm1
   obtain ⟨Sc0, Sf0, Sc1, Sf1, Sc2, Sf2, Sc3, Sf3⟩ := cf4 ((HI.out.1.block _ (lt_of_heap HS.out) (fun x => x)).trans HS.out)
   clear HI
   go_wp2_with fail
   go_loopg [3, 49] n1 (fun g ov t wx => ∃ i : Nat, i ≤ n1 ∧ g = n1 - i ∧ t = .int .i64 i ∧ Hid (KF WB wx ∧ OwnK rolE LB wx ov (m1 ++ l1.take i)))
   case atStart => exact ⟨0, Nat.zero_le _, rfl, rfl, HST⟩
   case round =>
    obtain ⟨i, hi, rfl, rfl, HI⟩ := hrel
    clear HST Sc0 Sf0 Sc1 Sf1 Sc2 Sf2 Sc3 Sf3
    by_cases hlt : i < n1
    ·skip
     have hiI : (i : Int) < (n1 : Int) := by omega
     have hwi : IntKind.i64.wrap ((i : Int) + 1) = (i : Int) + 1 := IntWalk.i64_in _ (by omega)
     have hrd := HV1.out.keeps HI.out.1
     obtain ⟨aoz, cpz, ez, hez, hrz⟩ := hrd
     have hll : l1.length = n1 := by simpa using (Value.slice.inj ez).2.1.symm
     obtain ⟨y, hy⟩ : ∃ y, l1[i]? = some y := ⟨_, List.getElem?_eq_getElem (by rw [hll]; exact hlt)⟩
     obtain ⟨g, off, hao, hg, hcc⟩ := hrz (by omega)
     simp only [Value.slice.injEq] at ez
     obtain ⟨rfl, hzz, rfl⟩ := ez
     subst hao
     have hicap : i < cp1 := by omega
     have hc := hcc i y hy
     have HY := Lib.hid hy
     obtain ⟨yr1, yr2⟩ := y
     clear hcc hrz hez hzz hy hll
     have c0 : wr.cell? ⟨g, off + i * 2, none⟩ = some (.string ⟨yr1.toArray⟩) := hc 0 _ rfl
     have c1 : wr.cell? ⟨g, off + i * 2 + 1, none⟩ = some (.string ⟨yr2.toArray⟩) := hc 1 _ rfl
     clear hc
     have hal := (MapKept.heap_alloc wr (bR yr1 yr2)).1
     have hka : KF wr (wr.alloc (bR yr1 yr2)) := (Keeps.refl _ _).alloc _
     obtain ⟨b, hb⟩ : ∃ b, wr.heap.size = b := ⟨_, rfl⟩
     rw [hb] at hal
     have HB := Lib.hid hal
     have hml := Hm1.out
     obtain ⟨acc, hacc⟩ : ∃ q, m1 ++ l1.take i = q := ⟨_, rfl⟩
     have HNX : Hid (m1 ++ l1.take (i + 1) = acc ++ [(yr1, yr2)]) := by show _ = _; rw [List.take_add_one, HY.out, ← List.append_assoc, hacc]; rfl
     have hac : acc.length ≤ 300 + i := by rw [← hacc, List.length_append, List.length_take]; omega
     rw [hacc] at HI
     clear hacc
     have HO : Hid (KF WB (wr.alloc (bR yr1 yr2)) ∧ OwnK rolE LB (wr.alloc (bR yr1 yr2)) u3 acc ∧ ∀ k, u3.ownBlock = some k → k ≠ b) := ⟨HI.out.1.trans hka, HI.out.2.keeps hka (fun _ _ x => x), own_not HI.out.2 (Nat.le_of_eq hb)⟩
     go_upto_region 14 with fail
     clear hal hka hb HI HY c0 c1
     generalize wr.alloc (bR yr1 yr2) = w1 at *
     obtain ⟨p0, f0, p1, f1⟩ := cf2 HB.out
     have hlo5 : LB ≤ w1.heap.size := by have := HO.out.1.size; have := HLB.out; omega
     obtain ⟨ac5, hac5⟩ : ∃ q, acc ++ [(yr1, yr2)] = q := ⟨_, rfl⟩
     have han5 : ac5.length = acc.length + 1 := by rw [← hac5]; simp
     obtain ⟨na5, hna5⟩ : ∃ q, ac5.length = q := ⟨_, rfl⟩
     go_wp2_with (at_builtin; refine app_as (E := rolE) rfl _ _ rfl LB _ acc rfl (HO.out.2.1.keeps ((Keeps.refl (fun _ => False) _).alloc _) (fun _ _ x => x)) _ [(yr1, yr2)] rfl (one_srcK rolE w1 (yr1, yr2) #[.string ⟨yr1.toArray⟩, .string ⟨yr2.toArray⟩] rfl).1 (by simp) (by simp; omega) (by simp; omega) ac5 na5 hac5 hna5 ?_)
     intro xo5 xc5 wn5 ho hk hf
     have hkx : KF w1 (w1.alloc (bR yr1 yr2)) := (Keeps.refl _ _).alloc _
     generalize (w1.alloc (bR yr1 yr2)) = wx5 at *
     generalize Value.slice xo5 na5 xc5 = vn5 at *
     have hb1 := lt_of_heap HB.out
     have hsx := hkx.size
     replace HB : Hid (wn5.heap[b]? = some (bR yr1 yr2)) := (hk.block b (Nat.lt_of_lt_of_le hb1 hsx) (fun e => HO.out.2.2 b e rfl)).trans ((hkx.block b hb1 (fun x => x)).trans HB.out)
     replace HO : Hid (KF WB wn5 ∧ OwnK rolE LB wn5 vn5 ac5 ∧ ∀ k, vn5.ownBlock = some k → k ≠ b) := ⟨(HO.out.1.trans hkx).trans_new hk (fun q hq e => by have := own_block HO.out.2.1 q e; have := HLB.out; omega), ho, fun k hk2 => by
      rcases hf k hk2 with q | q
      ·exact HO.out.2.2 k q
      ·omega⟩
     replace HNX : Hid (ac5 = acc ++ [(yr1, yr2)] ∧ _) := ⟨hac5.symm, HNX.out⟩
     clear ho hk hf hkx hb1 hsx hlo5 hna5 hac5
     clear p0 f0 p1 f1
     have HN2 : Hid (KF WB wn5 ∧ OwnK rolE LB wn5 vn5 (m1 ++ l1.take (i + 1))) := ⟨HO.out.1, by
      have e : m1 ++ l1.take (i + 1) = ac5 := by
       have q := HNX.out
       (try simp only [and_assoc] at q)
       simp only [q, List.append_assoc, List.nil_append, List.cons_append]
      rw [e]; exact HO.out.2.1⟩
     clear HNX
     clear HO HB
     go_wp2_with fail
     go_roundg (n1 - (i + 1))
     case measure => omega
     case rel => exact ⟨i + 1, by omega, rfl, by go_num, HN2⟩
    ·obtain rfl : n1 = i := by omega
     have hiI : ¬ (n1 : Int) < (n1 : Int) := by omega
     obtain ⟨m2, hm2⟩ : ∃ q, m1 ++ l1 = q := ⟨_, rfl⟩
     have Hm2 : Hid (m2.length ≤ 400) := by
      show _ ≤ _
      rw [← hm2, List.length_append]
      have := Hm1.out; have := HN1.out; omega
     have hpp : m2 ++ l2.take 0 = m1 ++ l1.take n1 := by
      rw [List.take_of_length_le (l := l1) (by rw [HN1.out]; exact Nat.le_refl _), hm2]
      simp
     have HST : Hid (KF WB wr ∧ OwnK rolE LB wr u3 (m2 ++ l2.take 0)) := ⟨HI.out.1, by rw [hpp]; exact HI.out.2⟩
     have HEm2 := Lib.hid hm2
     clear hpp hm2
     obtain ⟨Sc0, Sf0, Sc1, Sf1, Sc2, Sf2, Sc3, Sf3⟩ := cf4 ((HI.out.1.block _ (lt_of_heap HS.out) (fun x => x)).trans HS.out)
     clear HI
     go_wp2_with fail
     go_loopg [3, 61] n2 (fun g ov t wx => ∃ i : Nat, i ≤ n2 ∧ g = n2 - i ∧ t = .int .i64 i ∧ Hid (KF WB wx ∧ OwnK rolE LB wx ov (m2 ++ l2.take i)))
     case atStart => exact ⟨0, Nat.zero_le _, rfl, rfl, HST⟩
     case round =>
      obtain ⟨i, hi, rfl, rfl, HI⟩ := hrel
      clear HST Sc0 Sf0 Sc1 Sf1 Sc2 Sf2 Sc3 Sf3
      by_cases hlt : i < n2
      ·skip
       have hiI : (i : Int) < (n2 : Int) := by omega
       have hwi : IntKind.i64.wrap ((i : Int) + 1) = (i : Int) + 1 := IntWalk.i64_in _ (by omega)
       have hrd := HV2.out.keeps HI.out.1
       obtain ⟨aoz, cpz, ez, hez, hrz⟩ := hrd
       have hll : l2.length = n2 := by simpa using (Value.slice.inj ez).2.1.symm
       obtain ⟨y, hy⟩ : ∃ y, l2[i]? = some y := ⟨_, List.getElem?_eq_getElem (by rw [hll]; exact hlt)⟩
       obtain ⟨g, off, hao, hg, hcc⟩ := hrz (by omega)
       simp only [Value.slice.injEq] at ez
       obtain ⟨rfl, hzz, rfl⟩ := ez
       subst hao
       have hicap : i < cp2 := by omega
       have hc := hcc i y hy
       have HY := Lib.hid hy
       obtain ⟨yr1, yr2⟩ := y
       clear hcc hrz hez hzz hy hll
       have c0 : wr.cell? ⟨g, off + i * 2, none⟩ = some (.string ⟨yr1.toArray⟩) := hc 0 _ rfl
       have c1 : wr.cell? ⟨g, off + i * 2 + 1, none⟩ = some (.string ⟨yr2.toArray⟩) := hc 1 _ rfl
       clear hc
       have hal := (MapKept.heap_alloc wr (bR yr1 yr2)).1
       have hka : KF wr (wr.alloc (bR yr1 yr2)) := (Keeps.refl _ _).alloc _
       obtain ⟨b, hb⟩ : ∃ b, wr.heap.size = b := ⟨_, rfl⟩
       rw [hb] at hal
       have HB := Lib.hid hal
       have hml := Hm2.out
       obtain ⟨acc, hacc⟩ : ∃ q, m2 ++ l2.take i = q := ⟨_, rfl⟩
       have HNX : Hid (m2 ++ l2.take (i + 1) = acc ++ [(yr1, yr2)]) := by show _ = _; rw [List.take_add_one, HY.out, ← List.append_assoc, hacc]; rfl
       have hac : acc.length ≤ 400 + i := by rw [← hacc, List.length_append, List.length_take]; omega
       rw [hacc] at HI
       clear hacc
       have HO : Hid (KF WB (wr.alloc (bR yr1 yr2)) ∧ OwnK rolE LB (wr.alloc (bR yr1 yr2)) u3 acc ∧ ∀ k, u3.ownBlock = some k → k ≠ b) := ⟨HI.out.1.trans hka, HI.out.2.keeps hka (fun _ _ x => x), own_not HI.out.2 (Nat.le_of_eq hb)⟩
       go_upto_region 19 with fail
       clear hal hka hb HI HY c0 c1
       generalize wr.alloc (bR yr1 yr2) = w1 at *
       obtain ⟨p0, f0, p1, f1⟩ := cf2 HB.out
       have hlo6 : LB ≤ w1.heap.size := by have := HO.out.1.size; have := HLB.out; omega
       obtain ⟨ac6, hac6⟩ : ∃ q, acc ++ [(yr1, yr2)] = q := ⟨_, rfl⟩
       have han6 : ac6.length = acc.length + 1 := by rw [← hac6]; simp
       obtain ⟨na6, hna6⟩ : ∃ q, ac6.length = q := ⟨_, rfl⟩
       go_wp2_with (at_builtin; refine app_as (E := rolE) rfl _ _ rfl LB _ acc rfl (HO.out.2.1.keeps ((Keeps.refl (fun _ => False) _).alloc _) (fun _ _ x => x)) _ [(yr1, yr2)] rfl (one_srcK rolE w1 (yr1, yr2) #[.string ⟨yr1.toArray⟩, .string ⟨yr2.toArray⟩] rfl).1 (by simp) (by simp; omega) (by simp; omega) ac6 na6 hac6 hna6 ?_)
       intro xo6 xc6 wn6 ho hk hf
       have hkx : KF w1 (w1.alloc (bR yr1 yr2)) := (Keeps.refl _ _).alloc _
       generalize (w1.alloc (bR yr1 yr2)) = wx6 at *
       generalize Value.slice xo6 na6 xc6 = vn6 at *
       have hb1 := lt_of_heap HB.out
       have hsx := hkx.size
       replace HB : Hid (wn6.heap[b]? = some (bR yr1 yr2)) := (hk.block b (Nat.lt_of_lt_of_le hb1 hsx) (fun e => HO.out.2.2 b e rfl)).trans ((hkx.block b hb1 (fun x => x)).trans HB.out)
       replace HO : Hid (KF WB wn6 ∧ OwnK rolE LB wn6 vn6 ac6 ∧ ∀ k, vn6.ownBlock = some k → k ≠ b) := ⟨(HO.out.1.trans hkx).trans_new hk (fun q hq e => by have := own_block HO.out.2.1 q e; have := HLB.out; omega), ho, fun k hk2 => by
        rcases hf k hk2 with q | q
        ·exact HO.out.2.2 k q
        ·omega⟩
       replace HNX : Hid (ac6 = acc ++ [(yr1, yr2)] ∧ _) := ⟨hac6.symm, HNX.out⟩
       clear ho hk hf hkx hb1 hsx hlo6 hna6 hac6
       clear p0 f0 p1 f1
       have HN2 : Hid (KF WB wn6 ∧ OwnK rolE LB wn6 vn6 (m2 ++ l2.take (i + 1))) := ⟨HO.out.1, by
        have e : m2 ++ l2.take (i + 1) = ac6 := by
         have q := HNX.out
         (try simp only [and_assoc] at q)
         simp only [q, List.append_assoc, List.nil_append, List.cons_append]
        rw [e]; exact HO.out.2.1⟩
       clear HNX
       clear HO HB
       go_wp2_with fail
       go_roundg (n2 - (i + 1))
       case measure => omega
       case rel => exact ⟨i + 1, by omega, rfl, by go_num, HN2⟩
      ·obtain rfl : n2 = i := by omega
       have hiI : ¬ (n2 : Int) < (n2 : Int) := by omega
       obtain ⟨m3, hm3⟩ : ∃ q, m2 ++ l2 = q := ⟨_, rfl⟩
       have Hm3 : Hid (m3.length ≤ 500) := by
        show _ ≤ _
        rw [← hm3, List.length_append]
        have := Hm2.out; have := HN2.out; omega
       have hpp : m3 ++ (l3.take 0).flatMap rolesQ = m2 ++ l2.take n2 := by
        rw [List.take_of_length_le (l := l2) (by rw [HN2.out]; exact Nat.le_refl _), hm3]
        simp
       have HST : Hid (KF WB wr ∧ OwnK rolE LB wr u3 (m3 ++ (l3.take 0).flatMap rolesQ)) := ⟨HI.out.1, by rw [hpp]; exact HI.out.2⟩
       have HEm3 := Lib.hid hm3
       clear hpp hm3
       obtain ⟨Sc0, Sf0, Sc1, Sf1, Sc2, Sf2, Sc3, Sf3⟩ := cf4 ((HI.out.1.block _ (lt_of_heap HS.out) (fun x => x)).trans HS.out)
       clear HI
       go_wp2_with fail
       go_loopg [3, 73] n3 (fun g ov t wx => ∃ i : Nat, i ≤ n3 ∧ g = n3 - i ∧ t = .int .i64 i ∧ Hid (KF WB wx ∧ OwnK rolE LB wx ov (m3 ++ (l3.take i).flatMap rolesQ)))
       case atStart => exact ⟨0, Nat.zero_le _, rfl, rfl, HST⟩
       case round =>
        obtain ⟨i, hi, rfl, rfl, HI⟩ := hrel
        clear HST Sc0 Sf0 Sc1 Sf1 Sc2 Sf2 Sc3 Sf3
        by_cases hlt : i < n3
        ·skip
         have hiI : (i : Int) < (n3 : Int) := by omega
         have hwi : IntKind.i64.wrap ((i : Int) + 1) = (i : Int) + 1 := IntWalk.i64_in _ (by omega)
         have hrd := HV3.out.keeps HI.out.1
         obtain ⟨aoz, cpz, ez, hez, hrz⟩ := hrd
         have hll : lv.length = n3 := by simpa using (Value.slice.inj ez).2.1.symm
         obtain ⟨y, hy⟩ : ∃ y, lv[i]? = some y := ⟨_, List.getElem?_eq_getElem (by rw [hll]; exact hlt)⟩
         obtain ⟨g, off, hao, hg, hcc⟩ := hrz (by omega)
         simp only [Value.slice.injEq] at ez
         obtain ⟨rfl, hzz, rfl⟩ := ez
         subst hao
         have hicap : i < cp3 := by omega
         have hc := hcc i y hy
         have HY := Lib.hid hy
         obtain ⟨yk, ⟨ya1, ya2⟩, ⟨yb1, yb2⟩, yo, yn, yc⟩ := y
         clear hcc hrz hez hzz hy hll
         have c0 : wr.cell? ⟨g, off + i * 6, none⟩ = some (.int .i64 yk) := hc 0 _ rfl
         have c1 : wr.cell? ⟨g, off + i * 6 + 1, none⟩ = some (.string ⟨ya1.toArray⟩) := hc 1 _ rfl
         have c2 : wr.cell? ⟨g, off + i * 6 + 2, none⟩ = some (.string ⟨ya2.toArray⟩) := hc 2 _ rfl
         have c3 : wr.cell? ⟨g, off + i * 6 + 3, none⟩ = some (.string ⟨yb1.toArray⟩) := hc 3 _ rfl
         have c4 : wr.cell? ⟨g, off + i * 6 + 4, none⟩ = some (.string ⟨yb2.toArray⟩) := hc 4 _ rfl
         have c5 : wr.cell? ⟨g, off + i * 6 + 5, none⟩ = some (.slice yo yn yc) := hc 5 _ rfl
         clear hc
         have hal := (MapKept.heap_alloc wr (bQ yk ya1 ya2 yb1 yb2 yo yn yc)).1
         have hka : KF wr (wr.alloc (bQ yk ya1 ya2 yb1 yb2 yo yn yc)) := (Keeps.refl _ _).alloc _
         obtain ⟨b, hb⟩ : ∃ b, wr.heap.size = b := ⟨_, rfl⟩
         rw [hb] at hal
         have HB := Lib.hid hal
         have hml := Hm3.out
         obtain ⟨q, hq⟩ : ∃ q, l3[i]? = some q := ⟨_, List.getElem?_eq_getElem (by rw [HN3.out]; exact hlt)⟩
         have hrq := HQ.out i q _ hq HY.out
         obtain ⟨zk, ⟨za1, za2⟩, ⟨zb1, zb2⟩, zw⟩ := q
         obtain ⟨rfl, e1, e2, hz⟩ := hrq
         simp only [Prod.mk.injEq] at e1 e2
         obtain ⟨rfl, rfl⟩ := e1
         obtain ⟨rfl, rfl⟩ := e2
         (try simp only at c0 c1 c2 c3 c4 c5)
         have hnx := flat_next rolesQ hq
         have hm3 := HM3.out i
         obtain ⟨acc, hacc⟩ : ∃ q, m3 ++ (l3.take i).flatMap rolesQ = q := ⟨_, rfl⟩
         have HNX : Hid (m3 ++ (l3.take (i + 1)).flatMap rolesQ = acc ++ rolesQ (yk, (ya1, ya2), (yb1, yb2), zw)) := by show _ = _; rw [hnx, ← List.append_assoc, hacc]
         have hac : acc.length ≤ 500 + 2 * i := by rw [← hacc, List.length_append]; omega
         rw [hacc] at HI
         clear hq hz hnx hacc hm3
         have HO : Hid (KF WB (wr.alloc (bQ yk ya1 ya2 yb1 yb2 yo yn yc)) ∧ OwnK rolE LB (wr.alloc (bQ yk ya1 ya2 yb1 yb2 yo yn yc)) u3 acc ∧ ∀ k, u3.ownBlock = some k → k ≠ b) := ⟨HI.out.1.trans hka, HI.out.2.keeps hka (fun _ _ x => x), own_not HI.out.2 (Nat.le_of_eq hb)⟩
         go_upto_region 24 with fail
         clear hal hka hb HI HY c0 c1 c2 c3 c4 c5
         generalize wr.alloc (bQ yk ya1 ya2 yb1 yb2 yo yn yc) = w1 at *
         obtain ⟨p0, f0, p1, f1, p2, f2, p3, f3, p4, f4, p5, f5⟩ := cf6 HB.out
         have hlo7 : LB ≤ w1.heap.size := by have := HO.out.1.size; have := HLB.out; omega
         obtain ⟨ac7, hac7⟩ : ∃ q, acc ++ [(ya1, ya2)] = q := ⟨_, rfl⟩
         have han7 : ac7.length = acc.length + 1 := by rw [← hac7]; simp
         obtain ⟨na7, hna7⟩ : ∃ q, ac7.length = q := ⟨_, rfl⟩
         go_wp2_with (at_builtin; refine app_as (E := rolE) rfl _ _ rfl LB _ acc rfl (HO.out.2.1.keeps ((Keeps.refl (fun _ => False) _).alloc _) (fun _ _ x => x)) _ [(ya1, ya2)] rfl (one_srcK rolE w1 (ya1, ya2) #[.string ⟨ya1.toArray⟩, .string ⟨ya2.toArray⟩] rfl).1 (by simp) (by simp; omega) (by simp; omega) ac7 na7 hac7 hna7 ?_)
         intro xo7 xc7 wn7 ho hk hf
         have hkx : KF w1 (w1.alloc (bR ya1 ya2)) := (Keeps.refl _ _).alloc _
         generalize (w1.alloc (bR ya1 ya2)) = wx7 at *
         generalize Value.slice xo7 na7 xc7 = vn7 at *
         have hb1 := lt_of_heap HB.out
         have hsx := hkx.size
         replace HB : Hid (wn7.heap[b]? = some (bQ yk ya1 ya2 yb1 yb2 yo yn yc)) := (hk.block b (Nat.lt_of_lt_of_le hb1 hsx) (fun e => HO.out.2.2 b e rfl)).trans ((hkx.block b hb1 (fun x => x)).trans HB.out)
         replace HO : Hid (KF WB wn7 ∧ OwnK rolE LB wn7 vn7 ac7 ∧ ∀ k, vn7.ownBlock = some k → k ≠ b) := ⟨(HO.out.1.trans hkx).trans_new hk (fun q hq e => by have := own_block HO.out.2.1 q e; have := HLB.out; omega), ho, fun k hk2 => by
          rcases hf k hk2 with q | q
          ·exact HO.out.2.2 k q
          ·omega⟩
         replace HNX : Hid (ac7 = acc ++ [(ya1, ya2)] ∧ _) := ⟨hac7.symm, HNX.out⟩
         clear ho hk hf hkx hb1 hsx hlo7 hna7 hac7
         clear p0 f0 p1 f1 p2 f2 p3 f3 p4 f4 p5 f5
         obtain ⟨p0, f0, p1, f1, p2, f2, p3, f3, p4, f4, p5, f5⟩ := cf6 HB.out
         rcases (by omega : (¬ yk = 5 ∧ ¬ yk = 6) ∨ yk = 5 ∨ yk = 6) with hk1 | hk1 | hk1
         ·obtain ⟨k5, k6⟩ := hk1
          have hb5 : (yk == 5) = false := beq_eq_false_iff_ne.2 k5
          have hb6 : (yk == 6) = false := beq_eq_false_iff_ne.2 k6
          have HN2 : Hid (KF WB wn7 ∧ OwnK rolE LB wn7 vn7 (m3 ++ (l3.take (i + 1)).flatMap rolesQ)) := ⟨HO.out.1, by
           have e : m3 ++ (l3.take (i + 1)).flatMap rolesQ = ac7 := by
            have q := HNX.out
            (try simp only [rolesQ, k5, k6, or_self, if_false] at q)
            simp only [q, List.append_assoc, List.nil_append, List.cons_append]
           rw [e]; exact HO.out.2.1⟩
          clear HNX
          clear HO HB
          go_wp2_with fail
          go_roundg (n3 - (i + 1))
          case measure => omega
          case rel => exact ⟨i + 1, by omega, rfl, by go_num, HN2⟩
         ·subst hk1
          have hlo8 : LB ≤ wn7.heap.size := by have := HO.out.1.size; have := HLB.out; omega
          obtain ⟨ac8, hac8⟩ : ∃ q, ac7 ++ [(yb1, yb2)] = q := ⟨_, rfl⟩
          have han8 : ac8.length = ac7.length + 1 := by rw [← hac8]; simp
          obtain ⟨na8, hna8⟩ : ∃ q, ac8.length = q := ⟨_, rfl⟩
          go_wp2_with (at_builtin; refine app_as (E := rolE) rfl _ _ rfl LB _ ac7 rfl (HO.out.2.1.keeps ((Keeps.refl (fun _ => False) _).alloc _) (fun _ _ x => x)) _ [(yb1, yb2)] rfl (one_srcK rolE wn7 (yb1, yb2) #[.string ⟨yb1.toArray⟩, .string ⟨yb2.toArray⟩] rfl).1 (by simp) (by simp; omega) (by simp; omega) ac8 na8 hac8 hna8 ?_)
          intro xo8 xc8 wn8 ho hk hf
          have hkx : KF wn7 (wn7.alloc (bR yb1 yb2)) := (Keeps.refl _ _).alloc _
          generalize (wn7.alloc (bR yb1 yb2)) = wx8 at *
          generalize Value.slice xo8 na8 xc8 = vn8 at *
          have hb1 := lt_of_heap HB.out
          have hsx := hkx.size
          replace HB : Hid (wn8.heap[b]? = some (bQ 5 ya1 ya2 yb1 yb2 yo yn yc)) := (hk.block b (Nat.lt_of_lt_of_le hb1 hsx) (fun e => HO.out.2.2 b e rfl)).trans ((hkx.block b hb1 (fun x => x)).trans HB.out)
          replace HO : Hid (KF WB wn8 ∧ OwnK rolE LB wn8 vn8 ac8 ∧ ∀ k, vn8.ownBlock = some k → k ≠ b) := ⟨(HO.out.1.trans hkx).trans_new hk (fun q hq e => by have := own_block HO.out.2.1 q e; have := HLB.out; omega), ho, fun k hk2 => by
           rcases hf k hk2 with q | q
           ·exact HO.out.2.2 k q
           ·omega⟩
          replace HNX : Hid (ac8 = ac7 ++ [(yb1, yb2)] ∧ _) := ⟨hac8.symm, HNX.out⟩
          clear ho hk hf hkx hb1 hsx hlo8 hna8 hac8
          clear p0 f0 p1 f1 p2 f2 p3 f3 p4 f4 p5 f5
          obtain ⟨p0, f0, p1, f1, p2, f2, p3, f3, p4, f4, p5, f5⟩ := cf6 HB.out
          have HN2 : Hid (KF WB wn8 ∧ OwnK rolE LB wn8 vn8 (m3 ++ (l3.take (i + 1)).flatMap rolesQ)) := ⟨HO.out.1, by
           have e : m3 ++ (l3.take (i + 1)).flatMap rolesQ = ac8 := by
            have q := HNX.out
            (try simp only [rolesQ, true_or, or_true, if_true] at q)
            simp only [q, List.append_assoc, List.nil_append, List.cons_append]
           rw [e]; exact HO.out.2.1⟩
          clear HNX
          clear HO HB
          go_wp2_with fail
          go_roundg (n3 - (i + 1))
          case measure => omega
          case rel => exact ⟨i + 1, by omega, rfl, by go_num, HN2⟩
         ·subst hk1
          have hlo9 : LB ≤ wn7.heap.size := by have := HO.out.1.size; have := HLB.out; omega
          obtain ⟨ac9, hac9⟩ : ∃ q, ac7 ++ [(yb1, yb2)] = q := ⟨_, rfl⟩
          have han9 : ac9.length = ac7.length + 1 := by rw [← hac9]; simp
          obtain ⟨na9, hna9⟩ : ∃ q, ac9.length = q := ⟨_, rfl⟩
          go_wp2_with (at_builtin; refine app_as (E := rolE) rfl _ _ rfl LB _ ac7 rfl (HO.out.2.1.keeps ((Keeps.refl (fun _ => False) _).alloc _) (fun _ _ x => x)) _ [(yb1, yb2)] rfl (one_srcK rolE wn7 (yb1, yb2) #[.string ⟨yb1.toArray⟩, .string ⟨yb2.toArray⟩] rfl).1 (by simp) (by simp; omega) (by simp; omega) ac9 na9 hac9 hna9 ?_)
          intro xo9 xc9 wn9 ho hk hf
          have hkx : KF wn7 (wn7.alloc (bR yb1 yb2)) := (Keeps.refl _ _).alloc _
          generalize (wn7.alloc (bR yb1 yb2)) = wx9 at *
          generalize Value.slice xo9 na9 xc9 = vn9 at *
          have hb1 := lt_of_heap HB.out
          have hsx := hkx.size
          replace HB : Hid (wn9.heap[b]? = some (bQ 6 ya1 ya2 yb1 yb2 yo yn yc)) := (hk.block b (Nat.lt_of_lt_of_le hb1 hsx) (fun e => HO.out.2.2 b e rfl)).trans ((hkx.block b hb1 (fun x => x)).trans HB.out)
          replace HO : Hid (KF WB wn9 ∧ OwnK rolE LB wn9 vn9 ac9 ∧ ∀ k, vn9.ownBlock = some k → k ≠ b) := ⟨(HO.out.1.trans hkx).trans_new hk (fun q hq e => by have := own_block HO.out.2.1 q e; have := HLB.out; omega), ho, fun k hk2 => by
           rcases hf k hk2 with q | q
           ·exact HO.out.2.2 k q
           ·omega⟩
          replace HNX : Hid (ac9 = ac7 ++ [(yb1, yb2)] ∧ _) := ⟨hac9.symm, HNX.out⟩
          clear ho hk hf hkx hb1 hsx hlo9 hna9 hac9
          clear p0 f0 p1 f1 p2 f2 p3 f3 p4 f4 p5 f5
          obtain ⟨p0, f0, p1, f1, p2, f2, p3, f3, p4, f4, p5, f5⟩ := cf6 HB.out
          have HN2 : Hid (KF WB wn9 ∧ OwnK rolE LB wn9 vn9 (m3 ++ (l3.take (i + 1)).flatMap rolesQ)) := ⟨HO.out.1, by
           have e : m3 ++ (l3.take (i + 1)).flatMap rolesQ = ac9 := by
            have q := HNX.out
            (try simp only [rolesQ, true_or, or_true, if_true] at q)
            simp only [q, List.append_assoc, List.nil_append, List.cons_append]
           rw [e]; exact HO.out.2.1⟩
          clear HNX
          clear HO HB
          go_wp2_with fail
          go_roundg (n3 - (i + 1))
          case measure => omega
          case rel => exact ⟨i + 1, by omega, rfl, by go_num, HN2⟩
        ·obtain rfl : n3 = i := by omega
         have hiI : ¬ (n3 : Int) < (n3 : Int) := by omega
         have HE : Hid (KF W wr ∧ RdK rolE wr u3 res) := ⟨HK0.out.trans HI.out.1, by
          have q := HI.out.2.reads
          rw [List.take_of_length_le (by rw [HN3.out]; exact Nat.le_refl _)] at q
          rw [HRL.out, ← HEm3.out, ← HEm2.out, ← HEm1.out] at *
          simpa using q⟩
         clear HI
         go_wp2_with fail
         go_ret
         exact ⟨_, rfl, HE⟩
end Go.Proofs.YtededjfjbkcepaaGreat
