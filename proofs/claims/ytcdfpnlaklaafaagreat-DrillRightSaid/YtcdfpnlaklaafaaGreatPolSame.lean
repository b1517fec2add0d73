/-
 The document's Same of queries, of rows of them, of policies: of such as are the same.
-/
import Derived.Test.YtcdfpnlaklaafaaGreatDrillPol
import Derived.Test.YtcdfpnlaklaafaaGreatStmSame
import Derived.Test.YtcdfpnlaklaafaaGreatNameFresh
set_option linter.unusedVariables false
set_option linter.unusedSimpArgs false
set_option linter.unnecessarySimpa false
namespace Go.Proofs.YtcdfpnlaklaafaaGreat
open Go.ChangeShapes Go.WideShapes Go.ChangeAt Go.RowKit Go.Deep
set_option maxRecDepth 100000
set_option maxHeartbeats 6400000
theorem qsame_spec {w : World} {u v : Value} {q : Qry} (hu : ReadsS w u q.2.2.2) (hv : ReadsS w v q.2.2.2) (hl : q.2.2.2.length ≤ 1000000) :
  Calls Tryz.prog 16 #[qryV q u, qryV q v] w fun e W' => e = .returned (.bool true) ∧ Hid (Keeps (fun _ => False) w W') := by
 obtain ⟨k, ⟨a1, a2⟩, ⟨b1, b2⟩, wl⟩ := q
 simp only at hu hv hl
 obtain ⟨au, cu, eu, hu1, hu2⟩ := id hu
 obtain ⟨av, cv, ev, hv1, hv2⟩ := id hv
 clear hu1 hu2 hv1 hv2
 subst eu ev
 obtain ⟨n, hn⟩ : ∃ n, wl.length = n := ⟨_, rfl⟩
 rw [hn] at hu hv ⊢
 have hal := (MapKept.heap_alloc w (.cells #[.int .i64 k, .string ⟨a1.toArray⟩, .string ⟨a2.toArray⟩, .string ⟨b1.toArray⟩, .string ⟨b2.toArray⟩, .slice au n cu] 49)).1
 obtain ⟨WA, hWA⟩ : ∃ WA, w.alloc (.cells #[.int .i64 k, .string ⟨a1.toArray⟩, .string ⟨a2.toArray⟩, .string ⟨b1.toArray⟩, .string ⟨b2.toArray⟩, .slice au n cu] 49) = WA := ⟨_, rfl⟩
 have hkA : Keeps (fun _ => False) w WA := by rw [← hWA]; exact (Keeps.refl _ _).alloc _
 rw [hWA] at hal
 have hal2 := (MapKept.heap_alloc WA (.cells #[.int .i64 k, .string ⟨a1.toArray⟩, .string ⟨a2.toArray⟩, .string ⟨b1.toArray⟩, .string ⟨b2.toArray⟩, .slice av n cv] 49)).1
 obtain ⟨WB, hWB⟩ : ∃ WB, WA.alloc (.cells #[.int .i64 k, .string ⟨a1.toArray⟩, .string ⟨a2.toArray⟩, .string ⟨b1.toArray⟩, .string ⟨b2.toArray⟩, .slice av n cv] 49) = WB := ⟨_, rfl⟩
 have hkB : Keeps (fun _ => False) WA WB := by rw [← hWB]; exact (Keeps.refl _ _).alloc _
 rw [hWB] at hal2
 have halB := (hkB.block _ (lt_of_heap hal) (fun x => x)).trans hal
 have HK : Hid (Keeps (fun _ => False) w WB) := hkA.trans hkB
 have HS : Hid (Calls Tryz.prog 33 #[.slice au n cu, .slice av n cv] WB fun e w' => e = .returned (.bool true) ∧ ∃ nq, w' = WB.drewN nq) := ref_same (hu.keeps HK.out) (hv.keeps HK.out) hl rfl
 have p0 : WB.cell? ⟨w.heap.size, 0, none⟩ = some (.int .i64 k) := by rw [cell_of_heap halB]; rfl
 have p1 : WB.cell? ⟨w.heap.size, 1, none⟩ = some (.string ⟨a1.toArray⟩) := by rw [cell_of_heap halB]; rfl
 have p2 : WB.cell? ⟨w.heap.size, 2, none⟩ = some (.string ⟨a2.toArray⟩) := by rw [cell_of_heap halB]; rfl
 have p3 : WB.cell? ⟨w.heap.size, 3, none⟩ = some (.string ⟨b1.toArray⟩) := by rw [cell_of_heap halB]; rfl
 have p4 : WB.cell? ⟨w.heap.size, 4, none⟩ = some (.string ⟨b2.toArray⟩) := by rw [cell_of_heap halB]; rfl
 have p5 : WB.cell? ⟨w.heap.size, 5, none⟩ = some (.slice au n cu) := by rw [cell_of_heap halB]; rfl
 have q0 : WB.cell? ⟨WA.heap.size, 0, none⟩ = some (.int .i64 k) := by rw [cell_of_heap hal2]; rfl
 have q1 : WB.cell? ⟨WA.heap.size, 1, none⟩ = some (.string ⟨a1.toArray⟩) := by rw [cell_of_heap hal2]; rfl
 have q2 : WB.cell? ⟨WA.heap.size, 2, none⟩ = some (.string ⟨a2.toArray⟩) := by rw [cell_of_heap hal2]; rfl
 have q3 : WB.cell? ⟨WA.heap.size, 3, none⟩ = some (.string ⟨b1.toArray⟩) := by rw [cell_of_heap hal2]; rfl
 have q4 : WB.cell? ⟨WA.heap.size, 4, none⟩ = some (.string ⟨b2.toArray⟩) := by rw [cell_of_heap hal2]; rfl
 have q5 : WB.cell? ⟨WA.heap.size, 5, none⟩ = some (.slice av n cv) := by rw [cell_of_heap hal2]; rfl
 clear hal hal2 halB hkA hkB hu hv hn
 unfold qryV
 go_enter Tryz.func16, Tryz.ntmps16
 go_upto_region 1 with fail
 clear hWA hWB
 go_wp2_with (go_at_call 33; refine HS.out.mono ?_; rintro e w2 ⟨rfl, nq, rfl⟩)
 go_ret
 exact ⟨rfl, Lib.hid (HK.out.drewN nq)⟩
theorem qsameall_spec {w : World} {u v : Value} {l : List Qry} {P P' : Nat → Prop} (hu : QRX w u l P) (hv : QRX w v l P') (hl : l.length ≤ 1000000) (hw : ∀ q ∈ l, q.2.2.2.length ≤ 1000000) :
  Calls Tryz.prog 38 #[u, v] w fun e W' => e = .returned (.bool true) ∧ Hid (Keeps (fun _ => False) w W') := by
 obtain ⟨lu, eu1, eu2, eu3⟩ := hu
 obtain ⟨lv, ev1, ev2, ev3⟩ := hv
 obtain ⟨au, cu, rfl, hcu, hru⟩ := eu2.1.1
 obtain ⟨av, cv, rfl, hcv, hrv⟩ := ev2.1.1
 obtain ⟨n, hn⟩ : ∃ n, l.length = n := ⟨_, rfl⟩
 have HU := Lib.hid eu3
 have HV := Lib.hid ev3
 have HRU := Lib.hid hru
 have HRV := Lib.hid hrv
 have HLU : Hid (lu.length = n) := eu1.trans hn
 have HLV : Hid (lv.length = n) := ev1.trans hn
 have HN := Lib.hid hn
 have HW := Lib.hid hw
 rw [HLU.out] at hcu ⊢
 rw [HLV.out] at hcv ⊢
 have hnl : n ≤ 1000000 := by omega
 clear eu1 eu2 eu3 ev1 ev2 ev3 hru hrv hn hw hl
 go_enter Tryz.func38, Tryz.ntmps38
 go_wp2_with fail
 go_loopg [13] n (fun g s wr => ∃ k : Nat, k ≤ n ∧ g = n - k ∧ s = .int .i64 k ∧ Hid (Keeps (fun _ => False) w wr))
 case atStart => exact ⟨0, Nat.zero_le _, rfl, rfl, Keeps.refl _ _⟩
 case round =>
  obtain ⟨k, hk, rfl, rfl, HK⟩ := hrel
  by_cases hlt : k < n
  ·obtain ⟨gu, ou, rfl, hgu, hcuu⟩ := HRU.out (by rw [HLU.out]; omega)
   obtain ⟨gv, ov, rfl, hgv, hcvv⟩ := HRV.out (by rw [HLV.out]; omega)
   obtain ⟨q, hq⟩ : ∃ q, l[k]? = some q := ⟨_, List.getElem?_eq_getElem (by rw [HN.out]; exact hlt)⟩
   obtain ⟨x, hx⟩ : ∃ x, lu[k]? = some x := ⟨_, List.getElem?_eq_getElem (by rw [HLU.out]; exact hlt)⟩
   obtain ⟨y, hy⟩ : ∃ y, lv[k]? = some y := ⟨_, List.getElem?_eq_getElem (by rw [HLV.out]; exact hlt)⟩
   have n1 := HU.out k q x hq hx
   have n2 := HV.out k q y hq hy
   have c1 := hcuu k x hx
   have c2 := hcvv k y hy
   have HQL := Lib.hid (HW.out q (List.mem_of_getElem? hq))
   obtain ⟨xk, xa, xb, xo, xn, xc⟩ := x
   obtain ⟨yk, ya, yb, yo, yn, yc⟩ := y
   obtain ⟨rfl, rfl, rfl, r1, _⟩ := n1
   obtain ⟨rfl, rfl, rfl, r2, _⟩ := n2
   obtain ⟨zk, ⟨za1, za2⟩, ⟨zb1, zb2⟩, zw⟩ := q
   simp only at c1 c2
   have HR1 : Hid (ReadsS w (.slice xo xn xc) zw) := r1
   have HR2 : Hid (ReadsS w (.slice yo yn yc) zw) := r2
   have HC : Hid (∀ wz, Keeps (fun _ => False) w wz → Calls Tryz.prog 16 #[.agg #[.int .i64 zk, .string ⟨za1.toArray⟩, .string ⟨za2.toArray⟩, .string ⟨zb1.toArray⟩, .string ⟨zb2.toArray⟩, .slice xo xn xc], .agg #[.int .i64 zk, .string ⟨za1.toArray⟩, .string ⟨za2.toArray⟩, .string ⟨zb1.toArray⟩, .string ⟨zb2.toArray⟩, .slice yo yn yc]] wz fun e W' => e = .returned (.bool true) ∧ Hid (Keeps (fun _ => False) wz W')) := fun wz hz => qsame_spec (q := (zk, (za1, za2), (zb1, zb2), zw)) (HR1.out.keeps hz) (HR2.out.keeps hz) HQL.out
   clear r1 r2 hq hx hy hcuu hcvv
   have kc : ∀ (g : Nat), g < w.heap.size → ∀ (o : Nat) (z : Value), w.cell? ⟨g, o, none⟩ = some z → wr.cell? ⟨g, o, none⟩ = some z := fun g hg o z h => (HK.out.cell (p := ⟨g, o, none⟩) hg (fun x => x)).trans h
   have p0 : wr.cell? ⟨gu, ou + k * 6, none⟩ = some (.int .i64 zk) := kc _ hgu _ _ (c1 0 _ rfl)
   have p1 : wr.cell? ⟨gu, ou + k * 6 + 1, none⟩ = some (.string ⟨za1.toArray⟩) := kc _ hgu _ _ (c1 1 _ rfl)
   have p2 : wr.cell? ⟨gu, ou + k * 6 + 2, none⟩ = some (.string ⟨za2.toArray⟩) := kc _ hgu _ _ (c1 2 _ rfl)
   have p3 : wr.cell? ⟨gu, ou + k * 6 + 3, none⟩ = some (.string ⟨zb1.toArray⟩) := kc _ hgu _ _ (c1 3 _ rfl)
   have p4 : wr.cell? ⟨gu, ou + k * 6 + 4, none⟩ = some (.string ⟨zb2.toArray⟩) := kc _ hgu _ _ (c1 4 _ rfl)
   have p5 : wr.cell? ⟨gu, ou + k * 6 + 5, none⟩ = some (.slice xo xn xc) := kc _ hgu _ _ (c1 5 _ rfl)
   have q0 : wr.cell? ⟨gv, ov + k * 6, none⟩ = some (.int .i64 zk) := kc _ hgv _ _ (c2 0 _ rfl)
   have q1 : wr.cell? ⟨gv, ov + k * 6 + 1, none⟩ = some (.string ⟨za1.toArray⟩) := kc _ hgv _ _ (c2 1 _ rfl)
   have q2 : wr.cell? ⟨gv, ov + k * 6 + 2, none⟩ = some (.string ⟨za2.toArray⟩) := kc _ hgv _ _ (c2 2 _ rfl)
   have q3 : wr.cell? ⟨gv, ov + k * 6 + 3, none⟩ = some (.string ⟨zb1.toArray⟩) := kc _ hgv _ _ (c2 3 _ rfl)
   have q4 : wr.cell? ⟨gv, ov + k * 6 + 4, none⟩ = some (.string ⟨zb2.toArray⟩) := kc _ hgv _ _ (c2 4 _ rfl)
   have q5 : wr.cell? ⟨gv, ov + k * 6 + 5, none⟩ = some (.slice yo yn yc) := kc _ hgv _ _ (c2 5 _ rfl)
   have hkI : (k : Int) < (n : Int) := by omega
   have hku : k < cu := by omega
   have hkv : k < cv := by omega
   have hwi : IntKind.i64.wrap ((k : Int) + 1) = (k : Int) + 1 := IntWalk.i64_in _ (by omega)
   have hgu2 : gu < wr.heap.size := Nat.lt_of_lt_of_le hgu HK.out.size
   have hgv2 : gv < wr.heap.size := Nat.lt_of_lt_of_le hgv HK.out.size
   clear c1 c2 kc
   have KS : Hid (∀ w' w'' : World, (w'.cell? ⟨gu, ou + k * 6, none⟩ = some (.int .i64 zk) ∧ w'.cell? ⟨gu, ou + k * 6 + 1, none⟩ = some (.string ⟨za1.toArray⟩) ∧ w'.cell? ⟨gu, ou + k * 6 + 2, none⟩ = some (.string ⟨za2.toArray⟩) ∧ w'.cell? ⟨gu, ou + k * 6 + 3, none⟩ = some (.string ⟨zb1.toArray⟩) ∧ w'.cell? ⟨gu, ou + k * 6 + 4, none⟩ = some (.string ⟨zb2.toArray⟩) ∧ w'.cell? ⟨gu, ou + k * 6 + 5, none⟩ = some (.slice xo xn xc) ∧ w'.cell? ⟨gv, ov + k * 6, none⟩ = some (.int .i64 zk) ∧ w'.cell? ⟨gv, ov + k * 6 + 1, none⟩ = some (.string ⟨za1.toArray⟩) ∧ w'.cell? ⟨gv, ov + k * 6 + 2, none⟩ = some (.string ⟨za2.toArray⟩) ∧ w'.cell? ⟨gv, ov + k * 6 + 3, none⟩ = some (.string ⟨zb1.toArray⟩) ∧ w'.cell? ⟨gv, ov + k * 6 + 4, none⟩ = some (.string ⟨zb2.toArray⟩) ∧ w'.cell? ⟨gv, ov + k * 6 + 5, none⟩ = some (.slice yo yn yc) ∧ Hid (Keeps (fun _ => False) wr w')) → Keeps (fun _ => False) w' w'' → (w''.cell? ⟨gu, ou + k * 6, none⟩ = some (.int .i64 zk) ∧ w''.cell? ⟨gu, ou + k * 6 + 1, none⟩ = some (.string ⟨za1.toArray⟩) ∧ w''.cell? ⟨gu, ou + k * 6 + 2, none⟩ = some (.string ⟨za2.toArray⟩) ∧ w''.cell? ⟨gu, ou + k * 6 + 3, none⟩ = some (.string ⟨zb1.toArray⟩) ∧ w''.cell? ⟨gu, ou + k * 6 + 4, none⟩ = some (.string ⟨zb2.toArray⟩) ∧ w''.cell? ⟨gu, ou + k * 6 + 5, none⟩ = some (.slice xo xn xc) ∧ w''.cell? ⟨gv, ov + k * 6, none⟩ = some (.int .i64 zk) ∧ w''.cell? ⟨gv, ov + k * 6 + 1, none⟩ = some (.string ⟨za1.toArray⟩) ∧ w''.cell? ⟨gv, ov + k * 6 + 2, none⟩ = some (.string ⟨za2.toArray⟩) ∧ w''.cell? ⟨gv, ov + k * 6 + 3, none⟩ = some (.string ⟨zb1.toArray⟩) ∧ w''.cell? ⟨gv, ov + k * 6 + 4, none⟩ = some (.string ⟨zb2.toArray⟩) ∧ w''.cell? ⟨gv, ov + k * 6 + 5, none⟩ = some (.slice yo yn yc) ∧ Hid (Keeps (fun _ => False) wr w''))) := fun w' w'' h hk => by
    obtain ⟨h0, h1, h2, h3, h4, h5, g0, g1, g2, g3, g4, g5, hh⟩ := h
    have s1 := Nat.lt_of_lt_of_le hgu2 hh.out.size
    have s2 := Nat.lt_of_lt_of_le hgv2 hh.out.size
    have kc : ∀ (g : Nat), g < w'.heap.size → ∀ (o : Nat) (z : Value), w'.cell? ⟨g, o, none⟩ = some z → w''.cell? ⟨g, o, none⟩ = some z := fun g hg o z h => (hk.cell (p := ⟨g, o, none⟩) hg (fun x => x)).trans h
    exact ⟨kc _ s1 _ _ h0, kc _ s1 _ _ h1, kc _ s1 _ _ h2, kc _ s1 _ _ h3, kc _ s1 _ _ h4, kc _ s1 _ _ h5, kc _ s2 _ _ g0, kc _ s2 _ _ g1, kc _ s2 _ _ g2, kc _ s2 _ _ g3, kc _ s2 _ _ g4, kc _ s2 _ _ g5, Lib.hid (hh.out.trans hk)⟩
   have HB0 : Hid (wr.cell? ⟨gu, ou + k * 6, none⟩ = some (.int .i64 zk) ∧ wr.cell? ⟨gu, ou + k * 6 + 1, none⟩ = some (.string ⟨za1.toArray⟩) ∧ wr.cell? ⟨gu, ou + k * 6 + 2, none⟩ = some (.string ⟨za2.toArray⟩) ∧ wr.cell? ⟨gu, ou + k * 6 + 3, none⟩ = some (.string ⟨zb1.toArray⟩) ∧ wr.cell? ⟨gu, ou + k * 6 + 4, none⟩ = some (.string ⟨zb2.toArray⟩) ∧ wr.cell? ⟨gu, ou + k * 6 + 5, none⟩ = some (.slice xo xn xc) ∧ wr.cell? ⟨gv, ov + k * 6, none⟩ = some (.int .i64 zk) ∧ wr.cell? ⟨gv, ov + k * 6 + 1, none⟩ = some (.string ⟨za1.toArray⟩) ∧ wr.cell? ⟨gv, ov + k * 6 + 2, none⟩ = some (.string ⟨za2.toArray⟩) ∧ wr.cell? ⟨gv, ov + k * 6 + 3, none⟩ = some (.string ⟨zb1.toArray⟩) ∧ wr.cell? ⟨gv, ov + k * 6 + 4, none⟩ = some (.string ⟨zb2.toArray⟩) ∧ wr.cell? ⟨gv, ov + k * 6 + 5, none⟩ = some (.slice yo yn yc) ∧ Hid (Keeps (fun _ => False) wr wr)) := ⟨p0, p1, p2, p3, p4, p5, q0, q1, q2, q3, q4, q5, Lib.hid (Keeps.refl _ _)⟩
   have HCC : Hid (∀ wz, Keeps (fun _ => False) wr wz → Calls Tryz.prog 16 #[.agg #[.int .i64 zk, .string ⟨za1.toArray⟩, .string ⟨za2.toArray⟩, .string ⟨zb1.toArray⟩, .string ⟨zb2.toArray⟩, .slice xo xn xc], .agg #[.int .i64 zk, .string ⟨za1.toArray⟩, .string ⟨za2.toArray⟩, .string ⟨zb1.toArray⟩, .string ⟨zb2.toArray⟩, .slice yo yn yc]] wz fun e W' => e = .returned (.bool true) ∧ Hid (Keeps (fun _ => False) wz W')) := fun wz hz => HC.out wz (HK.out.trans hz)
   clear HC
   go_wp2_with fail
   go_region_held3 (fun w' => w'.cell? ⟨gu, ou + k * 6, none⟩ = some (.int .i64 zk) ∧ w'.cell? ⟨gu, ou + k * 6 + 1, none⟩ = some (.string ⟨za1.toArray⟩) ∧ w'.cell? ⟨gu, ou + k * 6 + 2, none⟩ = some (.string ⟨za2.toArray⟩) ∧ w'.cell? ⟨gu, ou + k * 6 + 3, none⟩ = some (.string ⟨zb1.toArray⟩) ∧ w'.cell? ⟨gu, ou + k * 6 + 4, none⟩ = some (.string ⟨zb2.toArray⟩) ∧ w'.cell? ⟨gu, ou + k * 6 + 5, none⟩ = some (.slice xo xn xc) ∧ w'.cell? ⟨gv, ov + k * 6, none⟩ = some (.int .i64 zk) ∧ w'.cell? ⟨gv, ov + k * 6 + 1, none⟩ = some (.string ⟨za1.toArray⟩) ∧ w'.cell? ⟨gv, ov + k * 6 + 2, none⟩ = some (.string ⟨za2.toArray⟩) ∧ w'.cell? ⟨gv, ov + k * 6 + 3, none⟩ = some (.string ⟨zb1.toArray⟩) ∧ w'.cell? ⟨gv, ov + k * 6 + 4, none⟩ = some (.string ⟨zb2.toArray⟩) ∧ w'.cell? ⟨gv, ov + k * 6 + 5, none⟩ = some (.slice yo yn yc) ∧ Hid (Keeps (fun _ => False) wr w')) (first | assumption | exact KS.out _ _ (by assumption) hk'.out | exact KS.out _ _ HB0.out ((Keeps.refl _ _).drew)) ((go_at_call 16; refine (HCC.out _ ((Keeps.refl _ _).drew)).mono ?_; rintro e w' ⟨rfl, hk'⟩))
   rename_i hh
   have HN2 : Hid (Keeps (fun _ => False) w w') := HK.out.trans (hh.2.2.2.2.2.2.2.2.2.2.2.2).out
   clear hh KS HB0 HCC p0 p1 p2 p3 p4 p5 q0 q1 q2 q3 q4 q5
   go_wp2_with fail
   go_roundg (n - (k + 1))
   case measure => omega
   case rel => exact ⟨k + 1, by omega, rfl, by go_num, HN2⟩
  ·obtain rfl : n = k := by omega
   have hkI : ¬ (n : Int) < (n : Int) := by omega
   go_wp2_with fail
   go_ret
   exact ⟨rfl, HK⟩
theorem polsame_spec {w : World} {u0 u1 u2 u3 v0 v1 v2 v3 : Value} {p : Pol} {P P' : Nat → Prop} (hu : PolX w u0 u1 u2 u3 p P) (hv : PolX w v0 v1 v2 v3 p P') (h0 : p.1.length ≤ 1000000) (h1 : p.2.1.length ≤ 1000000) (h2 : p.2.2.1.length ≤ 1000000) (h3 : p.2.2.2.length ≤ 1000000) (hw : ∀ q ∈ p.2.2.2, q.2.2.2.length ≤ 1000000) :
  Calls Tryz.prog 19 #[.agg #[u0, u1, u2, u3], .agg #[v0, v1, v2, v3]] w fun e W' => e = .returned (.bool true) ∧ Hid (Keeps (fun _ => False) w W') := by
 obtain ⟨a0, a1, a2, a3⟩ := hu
 obtain ⟨b0, b1, b2, b3⟩ := hv
 have S0 : Hid (∀ W, Keeps (fun _ => False) w W → Calls Tryz.prog 36 #[u0, v0] W fun e W' => e = .returned (.bool true) ∧ Hid (Keeps (fun _ => False) W W')) := fun W hk => (msame_spec (rdk_m.1 (a0.1.1.keeps hk)) (rdk_m.1 (b0.1.1.keeps hk)) h0 rfl).mono fun _ _ ⟨e, nq, r⟩ => ⟨e, by rw [r]; exact Lib.hid ((Keeps.refl _ _).drewN nq)⟩
 have S1 : Hid (∀ W, Keeps (fun _ => False) w W → Calls Tryz.prog 37 #[u1, v1] W fun e W' => e = .returned (.bool true) ∧ Hid (Keeps (fun _ => False) W W')) := fun W hk => (rsame_spec (rdk_r.1 (a1.1.1.keeps hk)) (rdk_r.1 (b1.1.1.keeps hk)) h1 rfl).mono fun _ _ ⟨e, nq, r⟩ => ⟨e, by rw [r]; exact Lib.hid ((Keeps.refl _ _).drewN nq)⟩
 have S2 : Hid (∀ W, Keeps (fun _ => False) w W → Calls Tryz.prog 37 #[u2, v2] W fun e W' => e = .returned (.bool true) ∧ Hid (Keeps (fun _ => False) W W')) := fun W hk => (rsame_spec (rdk_r.1 (a2.1.1.keeps hk)) (rdk_r.1 (b2.1.1.keeps hk)) h2 rfl).mono fun _ _ ⟨e, nq, r⟩ => ⟨e, by rw [r]; exact Lib.hid ((Keeps.refl _ _).drewN nq)⟩
 have S3 : Hid (∀ W, Keeps (fun _ => False) w W → Calls Tryz.prog 38 #[u3, v3] W fun e W' => e = .returned (.bool true) ∧ Hid (Keeps (fun _ => False) W W')) := fun W hk => qsameall_spec (a3.keeps hk (fun _ _ _ x => x)) (b3.keeps hk (fun _ _ _ x => x)) h3 hw
 obtain ⟨x0, n0, c0, e0, _⟩ := id a0.1.1
 obtain ⟨x1, n1, c1, e1⟩ := id a1.1.1
 obtain ⟨x2, n2, c2, e2⟩ := id a2.1.1
 obtain ⟨lu, zu, du, zu2⟩ := id a3
 obtain ⟨x3, n3, c3, _⟩ := id du.1.1
 obtain ⟨y0, m0, d0, f0, _⟩ := id b0.1.1
 obtain ⟨y1, m1, d1, f1⟩ := id b1.1.1
 obtain ⟨y2, m2, d2, f2⟩ := id b2.1.1
 obtain ⟨lv, zv, dv, zv2⟩ := id b3
 obtain ⟨y3, m3, d3, _⟩ := id dv.1.1
 clear zu zu2 zv zv2
 subst c0 c1 c2 c3 d0 d1 d2 d3
 generalize p.1.length = k0 at *
 generalize p.2.1.length = k1 at *
 generalize p.2.2.1.length = k2 at *
 generalize lu.length = k3 at *
 generalize lv.length = j3 at *
 have hal := (MapKept.heap_alloc w (.cells #[.slice x0 k0 n0, .slice x1 k1 n1, .slice x2 k2 n2, .slice x3 k3 n3] 57)).1
 obtain ⟨WA, hWA⟩ : ∃ WA, w.alloc (.cells #[.slice x0 k0 n0, .slice x1 k1 n1, .slice x2 k2 n2, .slice x3 k3 n3] 57) = WA := ⟨_, rfl⟩
 have hkA : Keeps (fun _ => False) w WA := by rw [← hWA]; exact (Keeps.refl _ _).alloc _
 rw [hWA] at hal
 have hal2 := (MapKept.heap_alloc WA (.cells #[.slice y0 k0 m0, .slice y1 k1 m1, .slice y2 k2 m2, .slice y3 j3 m3] 57)).1
 obtain ⟨WB, hWB⟩ : ∃ WB, WA.alloc (.cells #[.slice y0 k0 m0, .slice y1 k1 m1, .slice y2 k2 m2, .slice y3 j3 m3] 57) = WB := ⟨_, rfl⟩
 have hkB : Keeps (fun _ => False) WA WB := by rw [← hWB]; exact (Keeps.refl _ _).alloc _
 rw [hWB] at hal2
 have HA := Lib.hid ((hkB.block _ (lt_of_heap hal) (fun x => x)).trans hal)
 have HB := Lib.hid hal2
 have HK : Hid (Keeps (fun _ => False) w WB) := hkA.trans hkB
 clear hal hal2 hkA hkB e0 f0 e1 e2 f1 f2 a0 a1 a2 a3 b0 b1 b2 b3 du dv h0 h1 h2 h3 hw
 have T0 := Lib.hid (S0.out WB HK.out)
 have HF : Hid (∀ W, Keeps (fun _ => False) WB W → W.cell? ⟨w.heap.size, 0, none⟩ = some (.slice x0 k0 n0) ∧ W.cell? ⟨w.heap.size, 1, none⟩ = some (.slice x1 k1 n1) ∧ W.cell? ⟨w.heap.size, 2, none⟩ = some (.slice x2 k2 n2) ∧ W.cell? ⟨w.heap.size, 3, none⟩ = some (.slice x3 k3 n3) ∧ W.cell? ⟨WA.heap.size, 0, none⟩ = some (.slice y0 k0 m0) ∧ W.cell? ⟨WA.heap.size, 1, none⟩ = some (.slice y1 k1 m1) ∧ W.cell? ⟨WA.heap.size, 2, none⟩ = some (.slice y2 k2 m2) ∧ W.cell? ⟨WA.heap.size, 3, none⟩ = some (.slice y3 j3 m3)) := fun W hk => by
  have q1 := (hk.block _ (lt_of_heap HA.out) (fun x => x)).trans HA.out
  have q2 := (hk.block _ (lt_of_heap HB.out) (fun x => x)).trans HB.out
  refine ⟨?_, ?_, ?_, ?_, ?_, ?_, ?_, ?_⟩ <;> first | (rw [cell_of_heap q1]; rfl) | (rw [cell_of_heap q2]; rfl)
 obtain ⟨p0, p1, p2, p3, q0, q1, q2, q3⟩ := HF.out WB (Keeps.refl _ _)
 go_enter Tryz.func19, Tryz.ntmps19
 go_upto_region 1 with fail
 clear hWA hWB S0 HA HB
 go_wp2_with fail
 refine T0.out.mono ?_
 rintro e w1 ⟨rfl, k1'⟩
 have HK1 : Hid (Keeps (fun _ => False) WB w1) := k1'.out
 have T1 := Lib.hid (S1.out w1 (HK.out.trans HK1.out))
 clear T0 k1' S1 p0 p1 p2 p3 q0 q1 q2 q3
 obtain ⟨p0, p1, p2, p3, q0, q1, q2, q3⟩ := HF.out w1 HK1.out
 go_wp2_with fail
 refine T1.out.mono ?_
 rintro e w2 ⟨rfl, k2'⟩
 have HK2 : Hid (Keeps (fun _ => False) WB w2) := HK1.out.trans k2'.out
 have T2 := Lib.hid (S2.out w2 (HK.out.trans HK2.out))
 clear T1 k2' S2 HK1 p0 p1 p2 p3 q0 q1 q2 q3
 obtain ⟨p0, p1, p2, p3, q0, q1, q2, q3⟩ := HF.out w2 HK2.out
 go_wp2_with fail
 refine T2.out.mono ?_
 rintro e w3 ⟨rfl, k3'⟩
 have HK3 : Hid (Keeps (fun _ => False) WB w3) := HK2.out.trans k3'.out
 have T3 := Lib.hid (S3.out w3 (HK.out.trans HK3.out))
 clear T2 k3' S3 HK2 p0 p1 p2 p3 q0 q1 q2 q3
 obtain ⟨p0, p1, p2, p3, q0, q1, q2, q3⟩ := HF.out w3 HK3.out
 go_wp2_with fail
 refine T3.out.mono ?_
 rintro e w4 ⟨rfl, k4'⟩
 have HE : Hid (Keeps (fun _ => False) w w4) := (HK.out.trans HK3.out).trans k4'.out
 clear T3 k4' HK3 p0 p1 p2 p3 q0 q1 q2 q3 HF
 go_wp2_with fail
 go_ret
 exact ⟨rfl, HE⟩
end Go.Proofs.YtcdfpnlaklaafaaGreat
