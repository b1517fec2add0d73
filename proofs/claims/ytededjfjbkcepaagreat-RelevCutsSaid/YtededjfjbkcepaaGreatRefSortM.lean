/-
 The document's sort of statements: each put in its place, once.
-/
import Derived.Test.YtededjfjbkcepaaGreatKitSq
import Derived.Test.YtededjfjbkcepaaGreatMC
import Derived.Test.YtededjfjbkcepaaGreatMB
set_option linter.unusedVariables false
set_option linter.unusedSimpArgs false
set_option linter.unnecessarySimpa false
namespace Go.Proofs.YtededjfjbkcepaaGreat
open Go.ChangeShapes Go.WideShapes Go.ChangeAt Go.RowKit Go.Deep
set_option maxRecDepth 100000
set_option maxHeartbeats 6400000
theorem put_lenM (l : List Stm) (s : Stm) : (putO stmLt l s).length ≤ l.length + 1 := by
 unfold putO
 split
 ·omega
 ·have := ahead_le (lt := stmLt) s l
  simp only [List.length_append, List.length_take, List.length_drop, List.length_cons, List.length_nil]
  omega
theorem rsortm_spec {W : World} {v : Value} {l : List Stm} (h : ReadsM W v l) (hl : l.length ≤ 1000) :
 Calls Tryz.prog 25 #[v] W fun e W' => ∃ v', e = .returned v' ∧ Hid (KF W W' ∧ OwnK stmE W.heap.size W' v' (sortO stmLt l)) := by
 have HW0 := Lib.hid (rdk_m.2 h)
 obtain ⟨ao, cap, rfl, hle, hr⟩ := h
 obtain ⟨n, hn⟩ : ∃ n, l.length = n := ⟨_, rfl⟩
 rw [hn] at hle hr hl HW0 ⊢
 have HR := Lib.hid hr
 have HN := Lib.hid hn
 clear hr hn
 go_enter Tryz.func25, Tryz.ntmps25
 go_wp2_with fail
 go_loopg [3, 10] n (fun g ov t wx => ∃ (i : Nat) (out : List Stm), i ≤ n ∧ g = n - i ∧ t = .int .i64 i ∧ out.length ≤ i ∧ Hid (out = (l.take i).foldl (putO stmLt) [] ∧ KF W wx ∧ OwnK stmE W.heap.size wx ov out))
 case atStart => exact ⟨0, [], Nat.zero_le _, rfl, rfl, Nat.le_refl _, rfl, Keeps.refl _ _, ownK_nil stmE _ _⟩
 case round =>
  obtain ⟨i, out, hi, rfl, rfl, hol, HI⟩ := hrel
  by_cases hlt : i < n
  ·have hiI : (i : Int) < (n : Int) := by omega
   have hwi : IntKind.i64.wrap ((i : Int) + 1) = (i : Int) + 1 := IntWalk.i64_in _ (by omega)
   have hicap : i < cap := by omega
   obtain ⟨y, hy⟩ : ∃ y, l[i]? = some y := ⟨_, List.getElem?_eq_getElem (by rw [HN.out]; exact hlt)⟩
   obtain ⟨g, off, rfl, hg, hcc⟩ := HR.out (by omega)
   have hrdl : ReadsM wr (.slice (some ⟨g, off, none⟩) n cap) l := rdk_m.1 (HW0.out.keeps HI.out.2.1)
   obtain ⟨ao2, cap2, e2, hle2, hr2⟩ := hrdl
   obtain ⟨g2, off2, e3, hg2, hcc2⟩ := hr2 (by rw [HN.out]; omega)
   simp only [Value.slice.injEq] at e2
   obtain ⟨rfl, hzz, rfl⟩ := e2
   clear hzz
   simp only [Option.some.injEq, Addr.mk.injEq, and_true] at e3
   obtain ⟨rfl, rfl⟩ := e3
   have hq := hcc2 i y hy
   have HFO : Hid ((l.take (i + 1)).foldl (putO stmLt) [] = putO stmLt out y) := by
    show _ = _
    rw [List.take_add_one, hy, List.foldl_append, ← HI.out.1]
    rfl
   have HLN : Hid ((putO stmLt out y).length ≤ i + 1) := Nat.le_trans (put_lenM out y) (by omega)
   have HYV : Hid (stmV y = stmV y) := rfl
   have HHS : Hid (∀ W : World, ReadsM W u3 out → Calls Tryz.prog 47 #[u3, stmV y] W fun e W' => e = .returned (.bool (decide (y ∈ out))) ∧ Hid (KF W W')) := fun W h => mhas_spec h (by omega) y
   have HBF : Hid (∀ (W : World) (x : Stm), Calls Tryz.prog 71 #[stmV x, stmV y] W fun e W' => e = .returned (.bool (decide (stmLt x y))) ∧ Hid (KF W W')) := fun W x => rBefore_spec x y
   have HAL : Hid (∀ j x, j < aheadO stmLt y out → out[j]? = some x → stmLt x y) := fun j x hj hx => ahead_lt y out j x hj hx
   have HAT : Hid (∀ x, out[aheadO stmLt y out]? = some x → ¬ stmLt x y) := fun x hx => ahead_at y out x hx
   have hK0 : aheadO stmLt y out ≤ out.length := ahead_le y out
   have HPU : Hid (y ∉ out → putO stmLt out y = out.take (aheadO stmLt y out) ++ [y] ++ out.drop (aheadO stmLt y out)) := fun h => by show _ = _; unfold putO; rw [if_neg h]
   have HPI : Hid (y ∈ out → putO stmLt out y = out) := fun h => by show _ = _; unfold putO; rw [if_pos h]
   obtain ⟨pu, hpu⟩ : ∃ p, putO stmLt out y = p := ⟨_, rfl⟩
   obtain ⟨K0, hK0e⟩ : ∃ p, aheadO stmLt y out = p := ⟨_, rfl⟩
   rw [hpu] at HFO HLN HPU HPI
   rw [hK0e] at HAL HAT HPU hK0
   clear hpu hK0e
   have HYE : Hid (stmE.enc y = stmE.enc y) := rfl
   obtain ⟨⟨yh1, yh2⟩, yk, yo, ⟨ya1, ya2⟩, ⟨yb1, yb2⟩, yi⟩ := y
   obtain ⟨q0, q1, q2, q3, q4, q5, q6, q7, q8⟩ := hq
   simp only at q0 q1 q2 q3 q4 q5 q6 q7 q8
   clear hcc hcc2 hr2 hle2 hy HYV
   have hal := (MapKept.heap_alloc wr (bM yk yh1 yh2 yo ya1 ya2 yb1 yb2 yi)).1
   obtain ⟨w1, hw1⟩ : ∃ w1, wr.alloc (bM yk yh1 yh2 yo ya1 ya2 yb1 yb2 yi) = w1 := ⟨_, rfl⟩
   have hka : KF wr w1 := by rw [← hw1]; exact (Keeps.refl _ _).alloc _
   rw [hw1] at hal
   have hbl : wr.heap.size < w1.heap.size := lt_of_heap hal
   obtain ⟨b, hb⟩ : ∃ b, wr.heap.size = b := ⟨_, rfl⟩
   rw [hb] at hal
   have HB := Lib.hid hal
   have HK1 : Hid (KF W w1 ∧ OwnK stmE W.heap.size w1 u3 out ∧ W.heap.size ≤ b) := ⟨HI.out.2.1.trans hka, HI.out.2.2.keeps hka (fun _ _ x => x), by rw [← hb]; exact HI.out.2.1.size⟩
   have HC := Lib.hid (HHS.out w1 (rdk_m.1 HK1.out.2.1.reads))
   have c := fun i => cell_of_heap hal i
   have p0 := c 0
   have p1 := c 1
   have p2 := c 2
   have p3 := c 3
   have p4 := c 4
   have p5 := c 5
   have p6 := c 6
   have p7 := c 7
   have p8 := c 8
   simp only [List.getElem?_toArray, List.getElem?_cons_zero, List.getElem?_cons_succ] at p0 p1 p2 p3 p4 p5 p6 p7 p8
   clear hal hka c HHS HI
   unfold stmV at HC HBF
   simp only at HC HBF
   go_upto_region 5 with fail
   clear hw1 hb hbl q0 q1 q2 q3 q4 q5 q6 q7 q8
   go_wp2_with fail
   refine HC.out.mono ?_
   rintro e w2 ⟨rfl, k2⟩
   by_cases hin : ((yh1, yh2), yk, yo, (ya1, ya2), (yb1, yb2), yi) ∈ out
   ·rw [decide_eq_true hin]
    have HN2 : Hid (out = (l.take (i + 1)).foldl (putO stmLt) [] ∧ KF W w2 ∧ OwnK stmE W.heap.size w2 u3 out) := ⟨by rw [HFO.out, HPI.out hin], HK1.out.1.trans k2.out, HK1.out.2.1.keeps k2.out (fun _ _ x => x)⟩
    clear HC HBF HAL HAT HPU HPI HFO HLN k2 HK1 HB p0 p1 p2 p3 p4 p5 p6 p7 p8 hin
    go_wp2_with fail
    go_roundg (n - (i + 1))
    case measure => omega
    case rel => exact ⟨i + 1, out, by omega, rfl, by go_num, by omega, HN2⟩
   ·rw [decide_eq_false hin]
    have HE := Lib.hid (HPU.out hin)
    have HB2 := Lib.hid ((k2.out.block _ (lt_of_heap HB.out) (fun x => x)).trans HB.out)
    have HK2 : Hid (KF W w2 ∧ OwnK stmE W.heap.size w2 u3 out ∧ W.heap.size ≤ b) := ⟨HK1.out.1.trans k2.out, HK1.out.2.1.keeps k2.out (fun _ _ x => x), HK1.out.2.2⟩
    clear HC HPU HPI k2 HK1 HB p0 p1 p2 p3 p4 p5 p6 p7 p8 hin
    rcases HK2.out.2.1.form with ⟨rfl, rfl⟩ | ⟨go, cpo, cur, rfl, hgo, hho, hlo, hmo, hso, hto⟩
    ·have hK00 : K0 = 0 := by simpa using hK0
     subst hK00
     clear HAL HAT HBF
     go_wp2_with fail
     go_loopg [6] 0 (fun g t wx => g = 0 ∧ t = .int .i64 0 ∧ wx = w2)
     case atStart => exact ⟨rfl, rfl, rfl⟩
     case round =>
      obtain ⟨rfl, rfl, rfl⟩ := hrel
      have hd0 : decide ((0 : Nat) < 0) = false := rfl
      go_wp2_with fail
      go_quiet (fail)
      go_upto_region 9 with fail
      have kz : KF wr (wr.drewN nq) := (Keeps.refl _ _).drewN _
      generalize wr.drewN nq = wz at *
      have HKz : Hid (KF W wz ∧ OwnK stmE W.heap.size wz (Value.slice none 0 0) ([] : List Stm) ∧ W.heap.size ≤ b ∧ wz.heap[b]? = some (bM yk yh1 yh2 yo ya1 ya2 yb1 yb2 yi)) := ⟨HK2.out.1.trans kz, HK2.out.2.1.keeps kz (fun _ _ x => x), HK2.out.2.2, (kz.block _ (lt_of_heap HB2.out) (fun x => x)).trans HB2.out⟩
      clear kz HK2 HB2
      go_wp2_with fail
      have ka : KF wz (wz.alloc (.cells #[] 38)) := (Keeps.refl _ _).alloc _
      have hro : OwnK stmE W.heap.size (wz.alloc (.cells #[] 38)) (.slice (some ⟨wz.heap.size, 0, none⟩) 0 0) ([].drop 0) := ownK_lit stmE HKz.out.1.size
      obtain ⟨g3, hg3⟩ : ∃ g3, wz.heap.size = g3 := ⟨_, rfl⟩
      rw [hg3] at hro ⊢
      obtain ⟨rv, hrv⟩ : ∃ rv, Value.slice (some ⟨g3, 0, none⟩) 0 0 = rv := ⟨_, rfl⟩
      rw [hrv] at hro ⊢
      clear hg3 hrv
      generalize wz.alloc (.cells #[] 38) = w4 at *
      have HR4 : Hid (KF W w4 ∧ RdK stmE w4 (.slice none 0 0) ((([] : List Stm)).take 0) ∧ W.heap.size ≤ b ∧ w4.heap[b]? = some (bM yk yh1 yh2 yo ya1 ya2 yb1 yb2 yi) ∧ OwnK stmE W.heap.size w4 rv ((([] : List Stm)).drop 0)) := ⟨HKz.out.1.trans ka, (ownK_nil stmE 0 _).reads, HKz.out.2.2.1, (ka.block _ (lt_of_heap HKz.out.2.2.2) (fun x => x)).trans HKz.out.2.2.2, hro⟩
      clear ka hro HKz
      have HMK : Hid (∀ w' : World, w'.heap[b]? = some (bM yk yh1 yh2 yo ya1 ya2 yb1 yb2 yi) → w'.cell? ⟨b, 0, none⟩ = some (.int .i64 yk) ∧ w'.cell? ⟨b, 1, none⟩ = some (.string ⟨yh1.toArray⟩) ∧ w'.cell? ⟨b, 2, none⟩ = some (.string ⟨yh2.toArray⟩) ∧ w'.cell? ⟨b, 3, none⟩ = some (.string ⟨yo.toArray⟩) ∧ w'.cell? ⟨b, 4, none⟩ = some (.string ⟨ya1.toArray⟩) ∧ w'.cell? ⟨b, 5, none⟩ = some (.string ⟨ya2.toArray⟩) ∧ w'.cell? ⟨b, 6, none⟩ = some (.string ⟨yb1.toArray⟩) ∧ w'.cell? ⟨b, 7, none⟩ = some (.string ⟨yb2.toArray⟩) ∧ w'.cell? ⟨b, 8, none⟩ = some (.string ⟨yi.toArray⟩) ∧ Hid (w'.heap[b]? = some (bM yk yh1 yh2 yo ya1 ya2 yb1 yb2 yi))) := fun w' h => by
       refine ⟨?_, ?_, ?_, ?_, ?_, ?_, ?_, ?_, ?_, Lib.hid h⟩ <;> (rw [cell_of_heap h]; rfl)
      have hS0 := HMK.out w4.drew HR4.out.2.2.2.1
      refine wp_region_noPanic ?_
      refine wp_region_held_drew (S := (fun w' => w'.cell? ⟨b, 0, none⟩ = some (.int .i64 yk) ∧ w'.cell? ⟨b, 1, none⟩ = some (.string ⟨yh1.toArray⟩) ∧ w'.cell? ⟨b, 2, none⟩ = some (.string ⟨yh2.toArray⟩) ∧ w'.cell? ⟨b, 3, none⟩ = some (.string ⟨yo.toArray⟩) ∧ w'.cell? ⟨b, 4, none⟩ = some (.string ⟨ya1.toArray⟩) ∧ w'.cell? ⟨b, 5, none⟩ = some (.string ⟨ya2.toArray⟩) ∧ w'.cell? ⟨b, 6, none⟩ = some (.string ⟨yb1.toArray⟩) ∧ w'.cell? ⟨b, 7, none⟩ = some (.string ⟨yb2.toArray⟩) ∧ w'.cell? ⟨b, 8, none⟩ = some (.string ⟨yi.toArray⟩) ∧ Hid (w'.heap[b]? = some (bM yk yh1 yh2 yo ya1 ya2 yb1 yb2 yi)))) (by kernel_rfl) hS0 (fun hHeld => ?_)
      clear hS0
      refine tk 0 rfl hHeld ?_
      refine tk 1 rfl hHeld ?_
      refine tk 2 rfl hHeld ?_
      (try simp only [nz])
      refine tk 3 rfl hHeld ?_
      refine tk 4 rfl hHeld ?_
      refine tk 7 rfl hHeld ?_
      (try simp only [nz])
      refine on1 5 rfl fun KK hK => ?_
      go_simp
      have hb4 := lt_of_heap HR4.out.2.2.2.1
      have hb4d : b < w4.drew.heap.size := hb4
      have ka : KF w4 (w4.alloc (bM yk yh1 yh2 yo ya1 ya2 yb1 yb2 yi)).drew := ((Keeps.refl _ _).alloc _).drew
      have hsr : SrcK stmE (w4.alloc (bM yk yh1 yh2 yo ya1 ya2 yb1 yb2 yi)).drew (.slice (some ⟨w4.heap.size, 0, none⟩) 1 1) [((yh1, yh2), yk, yo, (ya1, ya2), (yb1, yb2), yi)] := (one_srcK stmE w4 ((yh1, yh2), yk, yo, (ya1, ya2), (yb1, yb2), yi) #[.int .i64 yk, .string ⟨yh1.toArray⟩, .string ⟨yh2.toArray⟩, .string ⟨yo.toArray⟩, .string ⟨ya1.toArray⟩, .string ⟨ya2.toArray⟩, .string ⟨yb1.toArray⟩, .string ⟨yb2.toArray⟩, .string ⟨yi.toArray⟩] rfl).keeps ((Keeps.refl _ _).drew)
      refine hK.out _ _ (HMK.out _ ((ka.block _ hb4 (fun x => x)).trans HR4.out.2.2.2.1)) fun hHeld => ?_
      clear hK KK
      (try simp only [nz])
      have HR5 : Hid (KF W (w4.alloc (bM yk yh1 yh2 yo ya1 ya2 yb1 yb2 yi)).drew ∧ RdK stmE (w4.alloc (bM yk yh1 yh2 yo ya1 ya2 yb1 yb2 yi)).drew (.slice none 0 0) ((([] : List Stm)).take 0) ∧ W.heap.size ≤ b ∧ (w4.alloc (bM yk yh1 yh2 yo ya1 ya2 yb1 yb2 yi)).drew.heap[b]? = some (bM yk yh1 yh2 yo ya1 ya2 yb1 yb2 yi) ∧ OwnK stmE W.heap.size (w4.alloc (bM yk yh1 yh2 yo ya1 ya2 yb1 yb2 yi)).drew rv ((([] : List Stm)).drop 0) ∧ SrcK stmE (w4.alloc (bM yk yh1 yh2 yo ya1 ya2 yb1 yb2 yi)).drew (.slice (some ⟨w4.heap.size, 0, none⟩) 1 1) [((yh1, yh2), yk, yo, (ya1, ya2), (yb1, yb2), yi)]) := ⟨HR4.out.1.trans ka, HR4.out.2.1.keeps ka, HR4.out.2.2.1, (ka.block _ hb4 (fun x => x)).trans HR4.out.2.2.2.1, HR4.out.2.2.2.2.keeps ka (fun _ _ x => x), hsr⟩
      clear ka hsr HR4 hb4 hb4d
      generalize hwN : (w4.alloc (bM yk yh1 yh2 yo ya1 ya2 yb1 yb2 yi)).drew = w5 at *
      clear hwN
      refine on1 6 rfl fun KK hK => ?_
      refine step_full_k (E := stmE) rfl (.tmp 39) (.tmp 41) rfl ((([] : List Stm)).take 0) 0 (by simp <;> omega) _ (by simp [Act.eval, Act.put] <;> rfl) HR5.out.2.1 _ [((yh1, yh2), yk, yo, (ya1, ya2), (yb1, yb2), yi)] (by simp [Act.eval, Act.put] <;> rfl) HR5.out.2.2.2.2.2.1 (by simp) (by simp <;> omega) ?_
      intro v6 w6 ho6 hk6
      have hb5 := lt_of_heap HR5.out.2.2.2.1
      refine hK.out _ _ (HMK.out _ ((hk6.block _ hb5 (fun x => x)).trans HR5.out.2.2.2.1)) fun hHeld => ?_
      clear hK KK
      (try simp only [nz])
      have HR6 : Hid (KF W w6 ∧ W.heap.size ≤ b ∧ b < w5.heap.size ∧ w6.heap[b]? = some (bM yk yh1 yh2 yo ya1 ya2 yb1 yb2 yi) ∧ OwnK stmE W.heap.size w6 rv ((([] : List Stm)).drop 0) ∧ OwnK stmE w5.heap.size w6 v6 ((([] : List Stm)).take 0 ++ [((yh1, yh2), yk, yo, (ya1, ya2), (yb1, yb2), yi)]) ∧ w5.heap.size ≤ w6.heap.size) := ⟨HR5.out.1.trans hk6, HR5.out.2.2.1, hb5, (hk6.block _ hb5 (fun x => x)).trans HR5.out.2.2.2.1, HR5.out.2.2.2.2.1.keeps hk6 (fun _ _ x => x), ho6, hk6.size⟩
      clear hk6 ho6 hb5 HR5
      refine on1 8 rfl fun KK hK => ?_
      refine step_app_k (E := stmE) rfl (.tmp 42) (.tmp 43) rfl w5.heap.size v6 ((([] : List Stm)).take 0 ++ [((yh1, yh2), yk, yo, (ya1, ya2), (yb1, yb2), yi)]) (by simp [Act.eval, Act.put]) HR6.out.2.2.2.2.2.1 rv ((([] : List Stm)).drop 0) (by simp [Act.eval, Act.put]) HR6.out.2.2.2.2.1.src (by simp <;> omega) HR6.out.2.2.2.2.2.2 ?_
      intro v7 w7 ho7 hk7
      have hwS : Keeps (fun q => w5.heap.size ≤ q) w6 w7 := hk7.mono (fun q _ e => own_block HR6.out.2.2.2.2.2.1 q e)
      refine hK.out _ _ (HMK.out _ ((hwS.block _ (by have := HR6.out.2.2.1; have := HR6.out.2.2.2.2.2.2; omega) (by have := HR6.out.2.2.1; omega)).trans HR6.out.2.2.2.1)) fun hHeld => ?_
      clear hK KK
      (try simp only [nz])
      have HN2 : Hid (pu = (l.take (i + 1)).foldl (putO stmLt) [] ∧ KF W w7 ∧ OwnK stmE W.heap.size w7 v7 pu) := ⟨HFO.out.symm, HR6.out.1.trans_new hwS (fun q hq e => by have := HR6.out.2.1; have := HR6.out.2.2.1; omega), by
       rw [HE.out]
       exact ho7.base (by have := HR6.out.2.1; have := HR6.out.2.2.1; omega)⟩
      have hpl : pu.length ≤ i + 1 := HLN.out
      clear hk7 ho7 hwS HR6 HMK HFO HE HLN
      refine on1 9 rfl fun KK hK => ?_
      go_simp
      refine hK.out _ _ (hHeld) fun hHeld => ?_
      clear hK KK
      (try simp only [nz])
      refine wpAnyH_done (by kernel_rfl) ?_ _
      refine NoPanic.normal ?_
      clear hHeld
      go_wp2_with fail
      go_roundg (n - (i + 1))
      case measure => omega
      case rel => exact ⟨i + 1, pu, by omega, rfl, by go_num, hpl, HN2⟩
    ·obtain ⟨no, hno⟩ : ∃ no, out.length = no := ⟨_, rfl⟩
     rw [hno] at hlo hol hK0 hto HK2 ⊢
     have HNO := Lib.hid hno
     have HSR : Hid (∀ w' w'' : World, OwnK stmE W.heap.size w' (.slice (some ⟨go, 0, none⟩) no cpo) out → KF w' w'' → SrcK stmE w'' (.slice (some ⟨go, K0 * 9, none⟩) (no - K0) (cpo - K0)) (out.drop K0)) := fun w' w'' h hk => by
      refine ⟨?_, fun n cap e => by simp at e⟩
      have q := (h.reads.keeps hk).drop hK0
      rw [Nat.zero_add] at q
      exact q
     have HFU : Hid (∀ w' : World, OwnK stmE W.heap.size w' (.slice (some ⟨go, 0, none⟩) no cpo) out → RdK stmE w' (.slice (some ⟨go, 0, none⟩) K0 K0) (out.take K0)) := fun w' h => h.reads.take hK0 (Nat.le_refl _)
     clear hno hho hso hto
     go_wp2_with fail
     go_loopg [6] K0 (fun g t wx => ∃ k : Nat, k ≤ K0 ∧ g = K0 - k ∧ t = .int .i64 k ∧ Hid (KF w2 wx))
     case atStart => exact ⟨0, Nat.zero_le _, rfl, rfl, Keeps.refl _ _⟩
     case round =>
      obtain ⟨k, hk, rfl, rfl, HL⟩ := hrel
      have hwk : IntKind.i64.wrap ((k : Int) + 1) = (k : Int) + 1 := IntWalk.i64_in _ (by omega)
      have hB3 := (HL.out.block _ (lt_of_heap HB2.out) (fun x => x)).trans HB2.out
      by_cases hkn : k < no
      ·have hkI : (k : Int) < (no : Int) := by omega
       have hdt : decide (k < no) = true := decide_eq_true hkn
       have hkc : k < cpo := by omega
       obtain ⟨x, hx⟩ : ∃ x, out[k]? = some x := ⟨_, List.getElem?_eq_getElem (by rw [HNO.out]; exact hkn)⟩
       have ho3 := (HK2.out.2.1.keeps HL.out (fun _ _ x => x)).reads
       obtain ⟨aoz, capz, ez, _, hrz⟩ := ho3
       obtain ⟨gz, offz, ez2, hgz, hcz⟩ := hrz (by rw [HNO.out]; omega)
       simp only [Value.slice.injEq] at ez
       obtain ⟨rfl, hzz, rfl⟩ := ez
       simp only [Option.some.injEq, Addr.mk.injEq, and_true] at ez2
       obtain ⟨rfl, rfl⟩ := ez2
       clear hzz
       have hc3 := fun i u hu => hcz k x hx i u hu
       clear hcz hrz
       have hbw : b < wr.heap.size := lt_of_heap hB3
       have HX := Lib.hid hx
       have HT : Hid (k < K0 → decide (stmLt x ((yh1, yh2), yk, yo, (ya1, ya2), (yb1, yb2), yi)) = true) := fun h => decide_eq_true (HAL.out k x h hx)
       have HF : Hid (k = K0 → decide (stmLt x ((yh1, yh2), yk, yo, (ya1, ya2), (yb1, yb2), yi)) = false) := fun h => decide_eq_false (HAT.out x (by rw [← h]; exact hx))
       have HCB : Hid (∀ W : World, Calls Tryz.prog 71 #[stmV x, (Value.agg #[.int .i64 yk, .string ⟨yh1.toArray⟩, .string ⟨yh2.toArray⟩, .string ⟨yo.toArray⟩, .string ⟨ya1.toArray⟩, .string ⟨ya2.toArray⟩, .string ⟨yb1.toArray⟩, .string ⟨yb2.toArray⟩, .string ⟨yi.toArray⟩])] W fun e W' => e = .returned (.bool (decide (stmLt x ((yh1, yh2), yk, yo, (ya1, ya2), (yb1, yb2), yi)))) ∧ Hid (KF W W')) := fun W => HBF.out W x
       clear hx
       unfold stmV at HCB
       obtain ⟨⟨xh1, xh2⟩, xk, xo, ⟨xa1, xa2⟩, ⟨xb1, xb2⟩, xi⟩ := x
       have c0 : wr.cell? ⟨go, k * 9, none⟩ = some (.int .i64 xk) := by
        have q := hc3 0 _ rfl
        rw [Nat.zero_add] at q
        exact q
       have c1 : wr.cell? ⟨go, k * 9 + 1, none⟩ = some (.string ⟨xh1.toArray⟩) := by
        have q := hc3 1 _ rfl
        rw [Nat.zero_add] at q
        exact q
       have c2 : wr.cell? ⟨go, k * 9 + 2, none⟩ = some (.string ⟨xh2.toArray⟩) := by
        have q := hc3 2 _ rfl
        rw [Nat.zero_add] at q
        exact q
       have c3 : wr.cell? ⟨go, k * 9 + 3, none⟩ = some (.string ⟨xo.toArray⟩) := by
        have q := hc3 3 _ rfl
        rw [Nat.zero_add] at q
        exact q
       have c4 : wr.cell? ⟨go, k * 9 + 4, none⟩ = some (.string ⟨xa1.toArray⟩) := by
        have q := hc3 4 _ rfl
        rw [Nat.zero_add] at q
        exact q
       have c5 : wr.cell? ⟨go, k * 9 + 5, none⟩ = some (.string ⟨xa2.toArray⟩) := by
        have q := hc3 5 _ rfl
        rw [Nat.zero_add] at q
        exact q
       have c6 : wr.cell? ⟨go, k * 9 + 6, none⟩ = some (.string ⟨xb1.toArray⟩) := by
        have q := hc3 6 _ rfl
        rw [Nat.zero_add] at q
        exact q
       have c7 : wr.cell? ⟨go, k * 9 + 7, none⟩ = some (.string ⟨xb2.toArray⟩) := by
        have q := hc3 7 _ rfl
        rw [Nat.zero_add] at q
        exact q
       have c8 : wr.cell? ⟨go, k * 9 + 8, none⟩ = some (.string ⟨xi.toArray⟩) := by
        have q := hc3 8 _ rfl
        rw [Nat.zero_add] at q
        exact q
       clear hc3
       have KS : Hid (∀ w' w'' : World, (w'.cell? ⟨go, k * 9, none⟩ = some (.int .i64 xk) ∧ w'.cell? ⟨go, k * 9 + 1, none⟩ = some (.string ⟨xh1.toArray⟩) ∧ w'.cell? ⟨go, k * 9 + 2, none⟩ = some (.string ⟨xh2.toArray⟩) ∧ w'.cell? ⟨go, k * 9 + 3, none⟩ = some (.string ⟨xo.toArray⟩) ∧ w'.cell? ⟨go, k * 9 + 4, none⟩ = some (.string ⟨xa1.toArray⟩) ∧ w'.cell? ⟨go, k * 9 + 5, none⟩ = some (.string ⟨xa2.toArray⟩) ∧ w'.cell? ⟨go, k * 9 + 6, none⟩ = some (.string ⟨xb1.toArray⟩) ∧ w'.cell? ⟨go, k * 9 + 7, none⟩ = some (.string ⟨xb2.toArray⟩) ∧ w'.cell? ⟨go, k * 9 + 8, none⟩ = some (.string ⟨xi.toArray⟩) ∧ w'.cell? ⟨b, 0, none⟩ = some (.int .i64 yk) ∧ w'.cell? ⟨b, 1, none⟩ = some (.string ⟨yh1.toArray⟩) ∧ w'.cell? ⟨b, 2, none⟩ = some (.string ⟨yh2.toArray⟩) ∧ w'.cell? ⟨b, 3, none⟩ = some (.string ⟨yo.toArray⟩) ∧ w'.cell? ⟨b, 4, none⟩ = some (.string ⟨ya1.toArray⟩) ∧ w'.cell? ⟨b, 5, none⟩ = some (.string ⟨ya2.toArray⟩) ∧ w'.cell? ⟨b, 6, none⟩ = some (.string ⟨yb1.toArray⟩) ∧ w'.cell? ⟨b, 7, none⟩ = some (.string ⟨yb2.toArray⟩) ∧ w'.cell? ⟨b, 8, none⟩ = some (.string ⟨yi.toArray⟩) ∧ Hid (KF wr w')) → KF w' w'' → (w''.cell? ⟨go, k * 9, none⟩ = some (.int .i64 xk) ∧ w''.cell? ⟨go, k * 9 + 1, none⟩ = some (.string ⟨xh1.toArray⟩) ∧ w''.cell? ⟨go, k * 9 + 2, none⟩ = some (.string ⟨xh2.toArray⟩) ∧ w''.cell? ⟨go, k * 9 + 3, none⟩ = some (.string ⟨xo.toArray⟩) ∧ w''.cell? ⟨go, k * 9 + 4, none⟩ = some (.string ⟨xa1.toArray⟩) ∧ w''.cell? ⟨go, k * 9 + 5, none⟩ = some (.string ⟨xa2.toArray⟩) ∧ w''.cell? ⟨go, k * 9 + 6, none⟩ = some (.string ⟨xb1.toArray⟩) ∧ w''.cell? ⟨go, k * 9 + 7, none⟩ = some (.string ⟨xb2.toArray⟩) ∧ w''.cell? ⟨go, k * 9 + 8, none⟩ = some (.string ⟨xi.toArray⟩) ∧ w''.cell? ⟨b, 0, none⟩ = some (.int .i64 yk) ∧ w''.cell? ⟨b, 1, none⟩ = some (.string ⟨yh1.toArray⟩) ∧ w''.cell? ⟨b, 2, none⟩ = some (.string ⟨yh2.toArray⟩) ∧ w''.cell? ⟨b, 3, none⟩ = some (.string ⟨yo.toArray⟩) ∧ w''.cell? ⟨b, 4, none⟩ = some (.string ⟨ya1.toArray⟩) ∧ w''.cell? ⟨b, 5, none⟩ = some (.string ⟨ya2.toArray⟩) ∧ w''.cell? ⟨b, 6, none⟩ = some (.string ⟨yb1.toArray⟩) ∧ w''.cell? ⟨b, 7, none⟩ = some (.string ⟨yb2.toArray⟩) ∧ w''.cell? ⟨b, 8, none⟩ = some (.string ⟨yi.toArray⟩) ∧ Hid (KF wr w''))) := fun w' w'' h hk => by
        have hh := Hid.out (h.2.2.2.2.2.2.2.2.2.2.2.2.2.2.2.2.2.2)
        have hg1 : go < w'.heap.size := Nat.lt_of_lt_of_le hgz hh.size
        have hg2 : b < w'.heap.size := Nat.lt_of_lt_of_le hbw hh.size
        exact ⟨(hk.cell (p := ⟨go, k * 9, none⟩) hg1 (fun x => x)).trans h.1, (hk.cell (p := ⟨go, k * 9 + 1, none⟩) hg1 (fun x => x)).trans h.2.1, (hk.cell (p := ⟨go, k * 9 + 2, none⟩) hg1 (fun x => x)).trans h.2.2.1, (hk.cell (p := ⟨go, k * 9 + 3, none⟩) hg1 (fun x => x)).trans h.2.2.2.1, (hk.cell (p := ⟨go, k * 9 + 4, none⟩) hg1 (fun x => x)).trans h.2.2.2.2.1, (hk.cell (p := ⟨go, k * 9 + 5, none⟩) hg1 (fun x => x)).trans h.2.2.2.2.2.1, (hk.cell (p := ⟨go, k * 9 + 6, none⟩) hg1 (fun x => x)).trans h.2.2.2.2.2.2.1, (hk.cell (p := ⟨go, k * 9 + 7, none⟩) hg1 (fun x => x)).trans h.2.2.2.2.2.2.2.1, (hk.cell (p := ⟨go, k * 9 + 8, none⟩) hg1 (fun x => x)).trans h.2.2.2.2.2.2.2.2.1, (hk.cell (p := ⟨b, 0, none⟩) hg2 (fun x => x)).trans h.2.2.2.2.2.2.2.2.2.1, (hk.cell (p := ⟨b, 1, none⟩) hg2 (fun x => x)).trans h.2.2.2.2.2.2.2.2.2.2.1, (hk.cell (p := ⟨b, 2, none⟩) hg2 (fun x => x)).trans h.2.2.2.2.2.2.2.2.2.2.2.1, (hk.cell (p := ⟨b, 3, none⟩) hg2 (fun x => x)).trans h.2.2.2.2.2.2.2.2.2.2.2.2.1, (hk.cell (p := ⟨b, 4, none⟩) hg2 (fun x => x)).trans h.2.2.2.2.2.2.2.2.2.2.2.2.2.1, (hk.cell (p := ⟨b, 5, none⟩) hg2 (fun x => x)).trans h.2.2.2.2.2.2.2.2.2.2.2.2.2.2.1, (hk.cell (p := ⟨b, 6, none⟩) hg2 (fun x => x)).trans h.2.2.2.2.2.2.2.2.2.2.2.2.2.2.2.1, (hk.cell (p := ⟨b, 7, none⟩) hg2 (fun x => x)).trans h.2.2.2.2.2.2.2.2.2.2.2.2.2.2.2.2.1, (hk.cell (p := ⟨b, 8, none⟩) hg2 (fun x => x)).trans h.2.2.2.2.2.2.2.2.2.2.2.2.2.2.2.2.2.1, Lib.hid (hh.trans hk)⟩
       have c := fun i => cell_of_heap hB3 i
       have p0 := c 0
       have p1 := c 1
       have p2 := c 2
       have p3 := c 3
       have p4 := c 4
       have p5 := c 5
       have p6 := c 6
       have p7 := c 7
       have p8 := c 8
       simp only [List.getElem?_toArray, List.getElem?_cons_zero, List.getElem?_cons_succ] at p0 p1 p2 p3 p4 p5 p6 p7 p8
       have HB0 : Hid (wr.cell? ⟨go, k * 9, none⟩ = some (.int .i64 xk) ∧ wr.cell? ⟨go, k * 9 + 1, none⟩ = some (.string ⟨xh1.toArray⟩) ∧ wr.cell? ⟨go, k * 9 + 2, none⟩ = some (.string ⟨xh2.toArray⟩) ∧ wr.cell? ⟨go, k * 9 + 3, none⟩ = some (.string ⟨xo.toArray⟩) ∧ wr.cell? ⟨go, k * 9 + 4, none⟩ = some (.string ⟨xa1.toArray⟩) ∧ wr.cell? ⟨go, k * 9 + 5, none⟩ = some (.string ⟨xa2.toArray⟩) ∧ wr.cell? ⟨go, k * 9 + 6, none⟩ = some (.string ⟨xb1.toArray⟩) ∧ wr.cell? ⟨go, k * 9 + 7, none⟩ = some (.string ⟨xb2.toArray⟩) ∧ wr.cell? ⟨go, k * 9 + 8, none⟩ = some (.string ⟨xi.toArray⟩) ∧ wr.cell? ⟨b, 0, none⟩ = some (.int .i64 yk) ∧ wr.cell? ⟨b, 1, none⟩ = some (.string ⟨yh1.toArray⟩) ∧ wr.cell? ⟨b, 2, none⟩ = some (.string ⟨yh2.toArray⟩) ∧ wr.cell? ⟨b, 3, none⟩ = some (.string ⟨yo.toArray⟩) ∧ wr.cell? ⟨b, 4, none⟩ = some (.string ⟨ya1.toArray⟩) ∧ wr.cell? ⟨b, 5, none⟩ = some (.string ⟨ya2.toArray⟩) ∧ wr.cell? ⟨b, 6, none⟩ = some (.string ⟨yb1.toArray⟩) ∧ wr.cell? ⟨b, 7, none⟩ = some (.string ⟨yb2.toArray⟩) ∧ wr.cell? ⟨b, 8, none⟩ = some (.string ⟨yi.toArray⟩) ∧ Hid (KF wr wr)) := ⟨c0, c1, c2, c3, c4, c5, c6, c7, c8, p0, p1, p2, p3, p4, p5, p6, p7, p8, Lib.hid (Keeps.refl _ _)⟩
       obtain ⟨res, hres⟩ : ∃ r, decide (stmLt ((xh1, xh2), xk, xo, (xa1, xa2), (xb1, xb2), xi) ((yh1, yh2), yk, yo, (ya1, ya2), (yb1, yb2), yi)) = r := ⟨_, rfl⟩
       simp only at HCB HT HF
       rw [hres] at HCB HT HF
       clear hres c
       go_wp2_with fail
       go_region_held3 (fun w' => w'.cell? ⟨go, k * 9, none⟩ = some (.int .i64 xk) ∧ w'.cell? ⟨go, k * 9 + 1, none⟩ = some (.string ⟨xh1.toArray⟩) ∧ w'.cell? ⟨go, k * 9 + 2, none⟩ = some (.string ⟨xh2.toArray⟩) ∧ w'.cell? ⟨go, k * 9 + 3, none⟩ = some (.string ⟨xo.toArray⟩) ∧ w'.cell? ⟨go, k * 9 + 4, none⟩ = some (.string ⟨xa1.toArray⟩) ∧ w'.cell? ⟨go, k * 9 + 5, none⟩ = some (.string ⟨xa2.toArray⟩) ∧ w'.cell? ⟨go, k * 9 + 6, none⟩ = some (.string ⟨xb1.toArray⟩) ∧ w'.cell? ⟨go, k * 9 + 7, none⟩ = some (.string ⟨xb2.toArray⟩) ∧ w'.cell? ⟨go, k * 9 + 8, none⟩ = some (.string ⟨xi.toArray⟩) ∧ w'.cell? ⟨b, 0, none⟩ = some (.int .i64 yk) ∧ w'.cell? ⟨b, 1, none⟩ = some (.string ⟨yh1.toArray⟩) ∧ w'.cell? ⟨b, 2, none⟩ = some (.string ⟨yh2.toArray⟩) ∧ w'.cell? ⟨b, 3, none⟩ = some (.string ⟨yo.toArray⟩) ∧ w'.cell? ⟨b, 4, none⟩ = some (.string ⟨ya1.toArray⟩) ∧ w'.cell? ⟨b, 5, none⟩ = some (.string ⟨ya2.toArray⟩) ∧ w'.cell? ⟨b, 6, none⟩ = some (.string ⟨yb1.toArray⟩) ∧ w'.cell? ⟨b, 7, none⟩ = some (.string ⟨yb2.toArray⟩) ∧ w'.cell? ⟨b, 8, none⟩ = some (.string ⟨yi.toArray⟩) ∧ Hid (KF wr w')) (first | assumption | exact KS.out _ _ (by assumption) hk'.out | exact KS.out _ _ HB0.out ((Keeps.refl _ _).drew)) ((go_at_call 71; refine (HCB.out _).mono ?_; rintro e w' ⟨rfl, hk'⟩))
       rename_i hh
       have HL2 := Lib.hid (HL.out.trans (hh.2.2.2.2.2.2.2.2.2.2.2.2.2.2.2.2.2.2).out)
       clear hh KS HB0 HCB c0 p0 c1 p1 c2 p2 c3 p3 c4 p4 c5 p5 c6 p6 c7 p7 c8 p8 HX hB3 hgz hbw HL hdt
       by_cases hkK : k < K0
       ·obtain rfl : res = true := HT.out hkK
        clear HT HF
        go_wp2_with fail
        go_roundg (K0 - (k + 1))
        case measure => omega
        case rel => exact ⟨k + 1, by omega, rfl, by go_num, HL2⟩
       ·obtain rfl : k = K0 := by omega
        obtain rfl : res = false := HF.out rfl
        clear HT HF HAL HAT HBF hkK
        go_upto_region 9 with fail
        have kz : KF w2 w' := HL2.out
        clear HL2
        clear hk'
        generalize w' = wz at *
        have hkcp : k ≤ cpo := by omega
        have HKz : Hid (KF W wz ∧ OwnK stmE W.heap.size wz (Value.slice (some ⟨go, 0, none⟩) no cpo) out ∧ W.heap.size ≤ b ∧ wz.heap[b]? = some (bM yk yh1 yh2 yo ya1 ya2 yb1 yb2 yi)) := ⟨HK2.out.1.trans kz, HK2.out.2.1.keeps kz (fun _ _ x => x), HK2.out.2.2, (kz.block _ (lt_of_heap HB2.out) (fun x => x)).trans HB2.out⟩
        clear kz HK2 HB2
        go_wp2_with (at_builtin; refine app_k (E := stmE) rfl _ _ rfl W.heap.size _ [] rfl (ownK_lit stmE HKz.out.1.size) _ (out.drop k) rfl (HSR.out _ _ HKz.out.2.1 ((Keeps.refl _ _).alloc _)) (by have := HNO.out; simp <;> omega) (by have := HKz.out.1.size; simp <;> omega) ?_)
        intro rv w4 hro hk4
        (try rw [List.nil_append] at hro)
        skip
        have ka : KF wz w4 := ((Keeps.refl (fun _ => False) wz).alloc _).trans_new hk4 (fun q hq e => by simp [Value.ownBlock] at e; omega)
        clear hk4
        go_upto_region 10 with fail
        have HR4 : Hid (KF W w4 ∧ RdK stmE w4 (.slice (some ⟨go, 0, none⟩) k k) ((out).take k) ∧ W.heap.size ≤ b ∧ w4.heap[b]? = some (bM yk yh1 yh2 yo ya1 ya2 yb1 yb2 yi) ∧ OwnK stmE W.heap.size w4 rv ((out).drop k)) := ⟨HKz.out.1.trans ka, (HFU.out _ HKz.out.2.1).keeps ka, HKz.out.2.2.1, (ka.block _ (lt_of_heap HKz.out.2.2.2) (fun x => x)).trans HKz.out.2.2.2, hro⟩
        clear ka hro HKz
        have HMK : Hid (∀ w' : World, w'.heap[b]? = some (bM yk yh1 yh2 yo ya1 ya2 yb1 yb2 yi) → w'.cell? ⟨b, 0, none⟩ = some (.int .i64 yk) ∧ w'.cell? ⟨b, 1, none⟩ = some (.string ⟨yh1.toArray⟩) ∧ w'.cell? ⟨b, 2, none⟩ = some (.string ⟨yh2.toArray⟩) ∧ w'.cell? ⟨b, 3, none⟩ = some (.string ⟨yo.toArray⟩) ∧ w'.cell? ⟨b, 4, none⟩ = some (.string ⟨ya1.toArray⟩) ∧ w'.cell? ⟨b, 5, none⟩ = some (.string ⟨ya2.toArray⟩) ∧ w'.cell? ⟨b, 6, none⟩ = some (.string ⟨yb1.toArray⟩) ∧ w'.cell? ⟨b, 7, none⟩ = some (.string ⟨yb2.toArray⟩) ∧ w'.cell? ⟨b, 8, none⟩ = some (.string ⟨yi.toArray⟩) ∧ Hid (w'.heap[b]? = some (bM yk yh1 yh2 yo ya1 ya2 yb1 yb2 yi))) := fun w' h => by
         refine ⟨?_, ?_, ?_, ?_, ?_, ?_, ?_, ?_, ?_, Lib.hid h⟩ <;> (rw [cell_of_heap h]; rfl)
        have hS0 := HMK.out w4.drew HR4.out.2.2.2.1
        refine wp_region_noPanic ?_
        refine wp_region_held_drew (S := (fun w' => w'.cell? ⟨b, 0, none⟩ = some (.int .i64 yk) ∧ w'.cell? ⟨b, 1, none⟩ = some (.string ⟨yh1.toArray⟩) ∧ w'.cell? ⟨b, 2, none⟩ = some (.string ⟨yh2.toArray⟩) ∧ w'.cell? ⟨b, 3, none⟩ = some (.string ⟨yo.toArray⟩) ∧ w'.cell? ⟨b, 4, none⟩ = some (.string ⟨ya1.toArray⟩) ∧ w'.cell? ⟨b, 5, none⟩ = some (.string ⟨ya2.toArray⟩) ∧ w'.cell? ⟨b, 6, none⟩ = some (.string ⟨yb1.toArray⟩) ∧ w'.cell? ⟨b, 7, none⟩ = some (.string ⟨yb2.toArray⟩) ∧ w'.cell? ⟨b, 8, none⟩ = some (.string ⟨yi.toArray⟩) ∧ Hid (w'.heap[b]? = some (bM yk yh1 yh2 yo ya1 ya2 yb1 yb2 yi)))) (by kernel_rfl) hS0 (fun hHeld => ?_)
        clear hS0
        refine tk 0 rfl hHeld ?_
        refine tk 1 rfl hHeld ?_
        refine tk 2 rfl hHeld ?_
        (try simp only [nz])
        refine tk 3 rfl hHeld ?_
        refine tk 4 rfl hHeld ?_
        refine tk 7 rfl hHeld ?_
        (try simp only [nz])
        refine on1 5 rfl fun KK hK => ?_
        go_simp
        have hb4 := lt_of_heap HR4.out.2.2.2.1
        have hb4d : b < w4.drew.heap.size := hb4
        have ka : KF w4 (w4.alloc (bM yk yh1 yh2 yo ya1 ya2 yb1 yb2 yi)).drew := ((Keeps.refl _ _).alloc _).drew
        have hsr : SrcK stmE (w4.alloc (bM yk yh1 yh2 yo ya1 ya2 yb1 yb2 yi)).drew (.slice (some ⟨w4.heap.size, 0, none⟩) 1 1) [((yh1, yh2), yk, yo, (ya1, ya2), (yb1, yb2), yi)] := (one_srcK stmE w4 ((yh1, yh2), yk, yo, (ya1, ya2), (yb1, yb2), yi) #[.int .i64 yk, .string ⟨yh1.toArray⟩, .string ⟨yh2.toArray⟩, .string ⟨yo.toArray⟩, .string ⟨ya1.toArray⟩, .string ⟨ya2.toArray⟩, .string ⟨yb1.toArray⟩, .string ⟨yb2.toArray⟩, .string ⟨yi.toArray⟩] rfl).keeps ((Keeps.refl _ _).drew)
        refine hK.out _ _ (HMK.out _ ((ka.block _ hb4 (fun x => x)).trans HR4.out.2.2.2.1)) fun hHeld => ?_
        clear hK KK
        (try simp only [nz])
        have HR5 : Hid (KF W (w4.alloc (bM yk yh1 yh2 yo ya1 ya2 yb1 yb2 yi)).drew ∧ RdK stmE (w4.alloc (bM yk yh1 yh2 yo ya1 ya2 yb1 yb2 yi)).drew (.slice (some ⟨go, 0, none⟩) k k) ((out).take k) ∧ W.heap.size ≤ b ∧ (w4.alloc (bM yk yh1 yh2 yo ya1 ya2 yb1 yb2 yi)).drew.heap[b]? = some (bM yk yh1 yh2 yo ya1 ya2 yb1 yb2 yi) ∧ OwnK stmE W.heap.size (w4.alloc (bM yk yh1 yh2 yo ya1 ya2 yb1 yb2 yi)).drew rv ((out).drop k) ∧ SrcK stmE (w4.alloc (bM yk yh1 yh2 yo ya1 ya2 yb1 yb2 yi)).drew (.slice (some ⟨w4.heap.size, 0, none⟩) 1 1) [((yh1, yh2), yk, yo, (ya1, ya2), (yb1, yb2), yi)]) := ⟨HR4.out.1.trans ka, HR4.out.2.1.keeps ka, HR4.out.2.2.1, (ka.block _ hb4 (fun x => x)).trans HR4.out.2.2.2.1, HR4.out.2.2.2.2.keeps ka (fun _ _ x => x), hsr⟩
        clear ka hsr HR4 hb4 hb4d
        generalize hwN : (w4.alloc (bM yk yh1 yh2 yo ya1 ya2 yb1 yb2 yi)).drew = w5 at *
        clear hwN
        refine on1 6 rfl fun KK hK => ?_
        refine step_full_k (E := stmE) rfl (.tmp 39) (.tmp 41) rfl ((out).take k) k (by have := HNO.out; simp <;> omega) _ (by simp [Act.eval, Act.put] <;> rfl) HR5.out.2.1 _ [((yh1, yh2), yk, yo, (ya1, ya2), (yb1, yb2), yi)] (by simp [Act.eval, Act.put] <;> rfl) HR5.out.2.2.2.2.2.1 (by simp) (by have := HNO.out; simp <;> omega) ?_
        intro v6 w6 ho6 hk6
        have hb5 := lt_of_heap HR5.out.2.2.2.1
        refine hK.out _ _ (HMK.out _ ((hk6.block _ hb5 (fun x => x)).trans HR5.out.2.2.2.1)) fun hHeld => ?_
        clear hK KK
        (try simp only [nz])
        have HR6 : Hid (KF W w6 ∧ W.heap.size ≤ b ∧ b < w5.heap.size ∧ w6.heap[b]? = some (bM yk yh1 yh2 yo ya1 ya2 yb1 yb2 yi) ∧ OwnK stmE W.heap.size w6 rv ((out).drop k) ∧ OwnK stmE w5.heap.size w6 v6 ((out).take k ++ [((yh1, yh2), yk, yo, (ya1, ya2), (yb1, yb2), yi)]) ∧ w5.heap.size ≤ w6.heap.size) := ⟨HR5.out.1.trans hk6, HR5.out.2.2.1, hb5, (hk6.block _ hb5 (fun x => x)).trans HR5.out.2.2.2.1, HR5.out.2.2.2.2.1.keeps hk6 (fun _ _ x => x), ho6, hk6.size⟩
        clear hk6 ho6 hb5 HR5
        refine on1 8 rfl fun KK hK => ?_
        refine step_app_k (E := stmE) rfl (.tmp 42) (.tmp 43) rfl w5.heap.size v6 ((out).take k ++ [((yh1, yh2), yk, yo, (ya1, ya2), (yb1, yb2), yi)]) (by simp [Act.eval, Act.put]) HR6.out.2.2.2.2.2.1 rv ((out).drop k) (by simp [Act.eval, Act.put]) HR6.out.2.2.2.2.1.src (by have := HNO.out; simp <;> omega) HR6.out.2.2.2.2.2.2 ?_
        intro v7 w7 ho7 hk7
        have hwS : Keeps (fun q => w5.heap.size ≤ q) w6 w7 := hk7.mono (fun q _ e => own_block HR6.out.2.2.2.2.2.1 q e)
        refine hK.out _ _ (HMK.out _ ((hwS.block _ (by have := HR6.out.2.2.1; have := HR6.out.2.2.2.2.2.2; omega) (by have := HR6.out.2.2.1; omega)).trans HR6.out.2.2.2.1)) fun hHeld => ?_
        clear hK KK
        (try simp only [nz])
        have HN2 : Hid (pu = (l.take (i + 1)).foldl (putO stmLt) [] ∧ KF W w7 ∧ OwnK stmE W.heap.size w7 v7 pu) := ⟨HFO.out.symm, HR6.out.1.trans_new hwS (fun q hq e => by have := HR6.out.2.1; have := HR6.out.2.2.1; omega), by
         rw [HE.out]
         exact ho7.base (by have := HR6.out.2.1; have := HR6.out.2.2.1; omega)⟩
        have hpl : pu.length ≤ i + 1 := HLN.out
        clear hk7 ho7 hwS HR6 HMK HFO HE HLN
        refine on1 9 rfl fun KK hK => ?_
        go_simp
        refine hK.out _ _ (hHeld) fun hHeld => ?_
        clear hK KK
        (try simp only [nz])
        refine wpAnyH_done (by kernel_rfl) ?_ _
        refine NoPanic.normal ?_
        clear hHeld
        go_wp2_with fail
        go_roundg (n - (i + 1))
        case measure => omega
        case rel => exact ⟨i + 1, pu, by omega, rfl, by go_num, hpl, HN2⟩
      ·have hkk : k = K0 := by omega
       subst hkk
       have hnk : no = k := by omega
       subst hnk
       have hdt : decide (no < no) = false := decide_eq_false (Nat.lt_irrefl _)
       go_wp2_with fail
       go_quiet (fail)
       go_upto_region 9 with fail
       have kz : KF w2 (wr.drewN nq) := HL.out.trans ((Keeps.refl _ _).drewN _)
       clear HL hB3 HAL HAT HBF hdt
       generalize wr.drewN nq = wz at *
       have hcp0 : no < cpo ∨ cpo = no := by omega
       rcases hcp0 with hcp | hcp
       ·have hcp2 : ¬ cpo = no := by omega
        have hcp3 : ¬ (cpo - no = 0) := by omega
        have HKz : Hid (KF W wz ∧ OwnK stmE W.heap.size wz (Value.slice (some ⟨go, 0, none⟩) no cpo) out ∧ W.heap.size ≤ b ∧ wz.heap[b]? = some (bM yk yh1 yh2 yo ya1 ya2 yb1 yb2 yi)) := ⟨HK2.out.1.trans kz, HK2.out.2.1.keeps kz (fun _ _ x => x), HK2.out.2.2, (kz.block _ (lt_of_heap HB2.out) (fun x => x)).trans HB2.out⟩
        clear kz HK2 HB2
        go_wp2_with (at_builtin; refine app_k (E := stmE) rfl _ _ rfl W.heap.size _ [] rfl (ownK_lit stmE HKz.out.1.size) _ [] rfl (srcK_empty _ _ _) (by have := HNO.out; simp <;> omega) (by have := HKz.out.1.size; simp <;> omega) ?_)
        intro rv w4 hro hk4
        (try rw [List.nil_append] at hro)
        have hro : OwnK stmE W.heap.size w4 rv (out.drop no) := by rw [List.drop_of_length_le (by rw [HNO.out]; exact Nat.le_refl _)]; exact hro
        have ka : KF wz w4 := ((Keeps.refl (fun _ => False) wz).alloc _).trans_new hk4 (fun q hq e => by simp [Value.ownBlock] at e; omega)
        clear hk4
        go_upto_region 10 with fail
        have HR4 : Hid (KF W w4 ∧ RdK stmE w4 (.slice (some ⟨go, 0, none⟩) no no) ((out).take no) ∧ W.heap.size ≤ b ∧ w4.heap[b]? = some (bM yk yh1 yh2 yo ya1 ya2 yb1 yb2 yi) ∧ OwnK stmE W.heap.size w4 rv ((out).drop no)) := ⟨HKz.out.1.trans ka, (HFU.out _ HKz.out.2.1).keeps ka, HKz.out.2.2.1, (ka.block _ (lt_of_heap HKz.out.2.2.2) (fun x => x)).trans HKz.out.2.2.2, hro⟩
        clear ka hro HKz
        have HMK : Hid (∀ w' : World, w'.heap[b]? = some (bM yk yh1 yh2 yo ya1 ya2 yb1 yb2 yi) → w'.cell? ⟨b, 0, none⟩ = some (.int .i64 yk) ∧ w'.cell? ⟨b, 1, none⟩ = some (.string ⟨yh1.toArray⟩) ∧ w'.cell? ⟨b, 2, none⟩ = some (.string ⟨yh2.toArray⟩) ∧ w'.cell? ⟨b, 3, none⟩ = some (.string ⟨yo.toArray⟩) ∧ w'.cell? ⟨b, 4, none⟩ = some (.string ⟨ya1.toArray⟩) ∧ w'.cell? ⟨b, 5, none⟩ = some (.string ⟨ya2.toArray⟩) ∧ w'.cell? ⟨b, 6, none⟩ = some (.string ⟨yb1.toArray⟩) ∧ w'.cell? ⟨b, 7, none⟩ = some (.string ⟨yb2.toArray⟩) ∧ w'.cell? ⟨b, 8, none⟩ = some (.string ⟨yi.toArray⟩) ∧ Hid (w'.heap[b]? = some (bM yk yh1 yh2 yo ya1 ya2 yb1 yb2 yi))) := fun w' h => by
         refine ⟨?_, ?_, ?_, ?_, ?_, ?_, ?_, ?_, ?_, Lib.hid h⟩ <;> (rw [cell_of_heap h]; rfl)
        have hS0 := HMK.out w4.drew HR4.out.2.2.2.1
        refine wp_region_noPanic ?_
        refine wp_region_held_drew (S := (fun w' => w'.cell? ⟨b, 0, none⟩ = some (.int .i64 yk) ∧ w'.cell? ⟨b, 1, none⟩ = some (.string ⟨yh1.toArray⟩) ∧ w'.cell? ⟨b, 2, none⟩ = some (.string ⟨yh2.toArray⟩) ∧ w'.cell? ⟨b, 3, none⟩ = some (.string ⟨yo.toArray⟩) ∧ w'.cell? ⟨b, 4, none⟩ = some (.string ⟨ya1.toArray⟩) ∧ w'.cell? ⟨b, 5, none⟩ = some (.string ⟨ya2.toArray⟩) ∧ w'.cell? ⟨b, 6, none⟩ = some (.string ⟨yb1.toArray⟩) ∧ w'.cell? ⟨b, 7, none⟩ = some (.string ⟨yb2.toArray⟩) ∧ w'.cell? ⟨b, 8, none⟩ = some (.string ⟨yi.toArray⟩) ∧ Hid (w'.heap[b]? = some (bM yk yh1 yh2 yo ya1 ya2 yb1 yb2 yi)))) (by kernel_rfl) hS0 (fun hHeld => ?_)
        clear hS0
        refine tk 0 rfl hHeld ?_
        refine tk 1 rfl hHeld ?_
        refine tk 2 rfl hHeld ?_
        (try simp only [nz])
        refine tk 3 rfl hHeld ?_
        refine tk 4 rfl hHeld ?_
        refine tk 7 rfl hHeld ?_
        (try simp only [nz])
        refine on1 5 rfl fun KK hK => ?_
        go_simp
        have hb4 := lt_of_heap HR4.out.2.2.2.1
        have hb4d : b < w4.drew.heap.size := hb4
        have ka : KF w4 (w4.alloc (bM yk yh1 yh2 yo ya1 ya2 yb1 yb2 yi)).drew := ((Keeps.refl _ _).alloc _).drew
        have hsr : SrcK stmE (w4.alloc (bM yk yh1 yh2 yo ya1 ya2 yb1 yb2 yi)).drew (.slice (some ⟨w4.heap.size, 0, none⟩) 1 1) [((yh1, yh2), yk, yo, (ya1, ya2), (yb1, yb2), yi)] := (one_srcK stmE w4 ((yh1, yh2), yk, yo, (ya1, ya2), (yb1, yb2), yi) #[.int .i64 yk, .string ⟨yh1.toArray⟩, .string ⟨yh2.toArray⟩, .string ⟨yo.toArray⟩, .string ⟨ya1.toArray⟩, .string ⟨ya2.toArray⟩, .string ⟨yb1.toArray⟩, .string ⟨yb2.toArray⟩, .string ⟨yi.toArray⟩] rfl).keeps ((Keeps.refl _ _).drew)
        refine hK.out _ _ (HMK.out _ ((ka.block _ hb4 (fun x => x)).trans HR4.out.2.2.2.1)) fun hHeld => ?_
        clear hK KK
        (try simp only [nz])
        have HR5 : Hid (KF W (w4.alloc (bM yk yh1 yh2 yo ya1 ya2 yb1 yb2 yi)).drew ∧ RdK stmE (w4.alloc (bM yk yh1 yh2 yo ya1 ya2 yb1 yb2 yi)).drew (.slice (some ⟨go, 0, none⟩) no no) ((out).take no) ∧ W.heap.size ≤ b ∧ (w4.alloc (bM yk yh1 yh2 yo ya1 ya2 yb1 yb2 yi)).drew.heap[b]? = some (bM yk yh1 yh2 yo ya1 ya2 yb1 yb2 yi) ∧ OwnK stmE W.heap.size (w4.alloc (bM yk yh1 yh2 yo ya1 ya2 yb1 yb2 yi)).drew rv ((out).drop no) ∧ SrcK stmE (w4.alloc (bM yk yh1 yh2 yo ya1 ya2 yb1 yb2 yi)).drew (.slice (some ⟨w4.heap.size, 0, none⟩) 1 1) [((yh1, yh2), yk, yo, (ya1, ya2), (yb1, yb2), yi)]) := ⟨HR4.out.1.trans ka, HR4.out.2.1.keeps ka, HR4.out.2.2.1, (ka.block _ hb4 (fun x => x)).trans HR4.out.2.2.2.1, HR4.out.2.2.2.2.keeps ka (fun _ _ x => x), hsr⟩
        clear ka hsr HR4 hb4 hb4d
        generalize hwN : (w4.alloc (bM yk yh1 yh2 yo ya1 ya2 yb1 yb2 yi)).drew = w5 at *
        clear hwN
        refine on1 6 rfl fun KK hK => ?_
        refine step_full_k (E := stmE) rfl (.tmp 39) (.tmp 41) rfl ((out).take no) no (by have := HNO.out; simp <;> omega) _ (by simp [Act.eval, Act.put] <;> rfl) HR5.out.2.1 _ [((yh1, yh2), yk, yo, (ya1, ya2), (yb1, yb2), yi)] (by simp [Act.eval, Act.put] <;> rfl) HR5.out.2.2.2.2.2.1 (by simp) (by have := HNO.out; simp <;> omega) ?_
        intro v6 w6 ho6 hk6
        have hb5 := lt_of_heap HR5.out.2.2.2.1
        refine hK.out _ _ (HMK.out _ ((hk6.block _ hb5 (fun x => x)).trans HR5.out.2.2.2.1)) fun hHeld => ?_
        clear hK KK
        (try simp only [nz])
        have HR6 : Hid (KF W w6 ∧ W.heap.size ≤ b ∧ b < w5.heap.size ∧ w6.heap[b]? = some (bM yk yh1 yh2 yo ya1 ya2 yb1 yb2 yi) ∧ OwnK stmE W.heap.size w6 rv ((out).drop no) ∧ OwnK stmE w5.heap.size w6 v6 ((out).take no ++ [((yh1, yh2), yk, yo, (ya1, ya2), (yb1, yb2), yi)]) ∧ w5.heap.size ≤ w6.heap.size) := ⟨HR5.out.1.trans hk6, HR5.out.2.2.1, hb5, (hk6.block _ hb5 (fun x => x)).trans HR5.out.2.2.2.1, HR5.out.2.2.2.2.1.keeps hk6 (fun _ _ x => x), ho6, hk6.size⟩
        clear hk6 ho6 hb5 HR5
        refine on1 8 rfl fun KK hK => ?_
        refine step_app_k (E := stmE) rfl (.tmp 42) (.tmp 43) rfl w5.heap.size v6 ((out).take no ++ [((yh1, yh2), yk, yo, (ya1, ya2), (yb1, yb2), yi)]) (by simp [Act.eval, Act.put]) HR6.out.2.2.2.2.2.1 rv ((out).drop no) (by simp [Act.eval, Act.put]) HR6.out.2.2.2.2.1.src (by have := HNO.out; simp <;> omega) HR6.out.2.2.2.2.2.2 ?_
        intro v7 w7 ho7 hk7
        have hwS : Keeps (fun q => w5.heap.size ≤ q) w6 w7 := hk7.mono (fun q _ e => own_block HR6.out.2.2.2.2.2.1 q e)
        refine hK.out _ _ (HMK.out _ ((hwS.block _ (by have := HR6.out.2.2.1; have := HR6.out.2.2.2.2.2.2; omega) (by have := HR6.out.2.2.1; omega)).trans HR6.out.2.2.2.1)) fun hHeld => ?_
        clear hK KK
        (try simp only [nz])
        have HN2 : Hid (pu = (l.take (i + 1)).foldl (putO stmLt) [] ∧ KF W w7 ∧ OwnK stmE W.heap.size w7 v7 pu) := ⟨HFO.out.symm, HR6.out.1.trans_new hwS (fun q hq e => by have := HR6.out.2.1; have := HR6.out.2.2.1; omega), by
         rw [HE.out]
         exact ho7.base (by have := HR6.out.2.1; have := HR6.out.2.2.1; omega)⟩
        have hpl : pu.length ≤ i + 1 := HLN.out
        clear hk7 ho7 hwS HR6 HMK HFO HE HLN
        refine on1 9 rfl fun KK hK => ?_
        go_simp
        refine hK.out _ _ (hHeld) fun hHeld => ?_
        clear hK KK
        (try simp only [nz])
        refine wpAnyH_done (by kernel_rfl) ?_ _
        refine NoPanic.normal ?_
        clear hHeld
        go_wp2_with fail
        go_roundg (n - (i + 1))
        case measure => omega
        case rel => exact ⟨i + 1, pu, by omega, rfl, by go_num, hpl, HN2⟩
       ·subst hcp
        have HKz : Hid (KF W wz ∧ OwnK stmE W.heap.size wz (Value.slice (some ⟨go, 0, none⟩) cpo cpo) out ∧ W.heap.size ≤ b ∧ wz.heap[b]? = some (bM yk yh1 yh2 yo ya1 ya2 yb1 yb2 yi)) := ⟨HK2.out.1.trans kz, HK2.out.2.1.keeps kz (fun _ _ x => x), HK2.out.2.2, (kz.block _ (lt_of_heap HB2.out) (fun x => x)).trans HB2.out⟩
        clear kz HK2 HB2
        go_wp2_with (at_builtin; refine app_k (E := stmE) rfl _ _ rfl W.heap.size _ [] rfl (ownK_lit stmE HKz.out.1.size) _ [] rfl (srcK_empty _ _ _) (by have := HNO.out; simp <;> omega) (by have := HKz.out.1.size; simp <;> omega) ?_)
        intro rv w4 hro hk4
        (try rw [List.nil_append] at hro)
        have hro : OwnK stmE W.heap.size w4 rv (out.drop cpo) := by rw [List.drop_of_length_le (by rw [HNO.out]; exact Nat.le_refl _)]; exact hro
        have ka : KF wz w4 := ((Keeps.refl (fun _ => False) wz).alloc _).trans_new hk4 (fun q hq e => by simp [Value.ownBlock] at e; omega)
        clear hk4
        go_upto_region 10 with fail
        have HR4 : Hid (KF W w4 ∧ RdK stmE w4 (.slice (some ⟨go, 0, none⟩) cpo cpo) ((out).take cpo) ∧ W.heap.size ≤ b ∧ w4.heap[b]? = some (bM yk yh1 yh2 yo ya1 ya2 yb1 yb2 yi) ∧ OwnK stmE W.heap.size w4 rv ((out).drop cpo)) := ⟨HKz.out.1.trans ka, (HFU.out _ HKz.out.2.1).keeps ka, HKz.out.2.2.1, (ka.block _ (lt_of_heap HKz.out.2.2.2) (fun x => x)).trans HKz.out.2.2.2, hro⟩
        clear ka hro HKz
        have HMK : Hid (∀ w' : World, w'.heap[b]? = some (bM yk yh1 yh2 yo ya1 ya2 yb1 yb2 yi) → w'.cell? ⟨b, 0, none⟩ = some (.int .i64 yk) ∧ w'.cell? ⟨b, 1, none⟩ = some (.string ⟨yh1.toArray⟩) ∧ w'.cell? ⟨b, 2, none⟩ = some (.string ⟨yh2.toArray⟩) ∧ w'.cell? ⟨b, 3, none⟩ = some (.string ⟨yo.toArray⟩) ∧ w'.cell? ⟨b, 4, none⟩ = some (.string ⟨ya1.toArray⟩) ∧ w'.cell? ⟨b, 5, none⟩ = some (.string ⟨ya2.toArray⟩) ∧ w'.cell? ⟨b, 6, none⟩ = some (.string ⟨yb1.toArray⟩) ∧ w'.cell? ⟨b, 7, none⟩ = some (.string ⟨yb2.toArray⟩) ∧ w'.cell? ⟨b, 8, none⟩ = some (.string ⟨yi.toArray⟩) ∧ Hid (w'.heap[b]? = some (bM yk yh1 yh2 yo ya1 ya2 yb1 yb2 yi))) := fun w' h => by
         refine ⟨?_, ?_, ?_, ?_, ?_, ?_, ?_, ?_, ?_, Lib.hid h⟩ <;> (rw [cell_of_heap h]; rfl)
        have hS0 := HMK.out w4.drew HR4.out.2.2.2.1
        refine wp_region_noPanic ?_
        refine wp_region_held_drew (S := (fun w' => w'.cell? ⟨b, 0, none⟩ = some (.int .i64 yk) ∧ w'.cell? ⟨b, 1, none⟩ = some (.string ⟨yh1.toArray⟩) ∧ w'.cell? ⟨b, 2, none⟩ = some (.string ⟨yh2.toArray⟩) ∧ w'.cell? ⟨b, 3, none⟩ = some (.string ⟨yo.toArray⟩) ∧ w'.cell? ⟨b, 4, none⟩ = some (.string ⟨ya1.toArray⟩) ∧ w'.cell? ⟨b, 5, none⟩ = some (.string ⟨ya2.toArray⟩) ∧ w'.cell? ⟨b, 6, none⟩ = some (.string ⟨yb1.toArray⟩) ∧ w'.cell? ⟨b, 7, none⟩ = some (.string ⟨yb2.toArray⟩) ∧ w'.cell? ⟨b, 8, none⟩ = some (.string ⟨yi.toArray⟩) ∧ Hid (w'.heap[b]? = some (bM yk yh1 yh2 yo ya1 ya2 yb1 yb2 yi)))) (by kernel_rfl) hS0 (fun hHeld => ?_)
        clear hS0
        refine tk 0 rfl hHeld ?_
        refine tk 1 rfl hHeld ?_
        refine tk 2 rfl hHeld ?_
        (try simp only [nz])
        refine tk 3 rfl hHeld ?_
        refine tk 4 rfl hHeld ?_
        refine tk 7 rfl hHeld ?_
        (try simp only [nz])
        refine on1 5 rfl fun KK hK => ?_
        go_simp
        have hb4 := lt_of_heap HR4.out.2.2.2.1
        have hb4d : b < w4.drew.heap.size := hb4
        have ka : KF w4 (w4.alloc (bM yk yh1 yh2 yo ya1 ya2 yb1 yb2 yi)).drew := ((Keeps.refl _ _).alloc _).drew
        have hsr : SrcK stmE (w4.alloc (bM yk yh1 yh2 yo ya1 ya2 yb1 yb2 yi)).drew (.slice (some ⟨w4.heap.size, 0, none⟩) 1 1) [((yh1, yh2), yk, yo, (ya1, ya2), (yb1, yb2), yi)] := (one_srcK stmE w4 ((yh1, yh2), yk, yo, (ya1, ya2), (yb1, yb2), yi) #[.int .i64 yk, .string ⟨yh1.toArray⟩, .string ⟨yh2.toArray⟩, .string ⟨yo.toArray⟩, .string ⟨ya1.toArray⟩, .string ⟨ya2.toArray⟩, .string ⟨yb1.toArray⟩, .string ⟨yb2.toArray⟩, .string ⟨yi.toArray⟩] rfl).keeps ((Keeps.refl _ _).drew)
        refine hK.out _ _ (HMK.out _ ((ka.block _ hb4 (fun x => x)).trans HR4.out.2.2.2.1)) fun hHeld => ?_
        clear hK KK
        (try simp only [nz])
        have HR5 : Hid (KF W (w4.alloc (bM yk yh1 yh2 yo ya1 ya2 yb1 yb2 yi)).drew ∧ RdK stmE (w4.alloc (bM yk yh1 yh2 yo ya1 ya2 yb1 yb2 yi)).drew (.slice (some ⟨go, 0, none⟩) cpo cpo) ((out).take cpo) ∧ W.heap.size ≤ b ∧ (w4.alloc (bM yk yh1 yh2 yo ya1 ya2 yb1 yb2 yi)).drew.heap[b]? = some (bM yk yh1 yh2 yo ya1 ya2 yb1 yb2 yi) ∧ OwnK stmE W.heap.size (w4.alloc (bM yk yh1 yh2 yo ya1 ya2 yb1 yb2 yi)).drew rv ((out).drop cpo) ∧ SrcK stmE (w4.alloc (bM yk yh1 yh2 yo ya1 ya2 yb1 yb2 yi)).drew (.slice (some ⟨w4.heap.size, 0, none⟩) 1 1) [((yh1, yh2), yk, yo, (ya1, ya2), (yb1, yb2), yi)]) := ⟨HR4.out.1.trans ka, HR4.out.2.1.keeps ka, HR4.out.2.2.1, (ka.block _ hb4 (fun x => x)).trans HR4.out.2.2.2.1, HR4.out.2.2.2.2.keeps ka (fun _ _ x => x), hsr⟩
        clear ka hsr HR4 hb4 hb4d
        generalize hwN : (w4.alloc (bM yk yh1 yh2 yo ya1 ya2 yb1 yb2 yi)).drew = w5 at *
        clear hwN
        refine on1 6 rfl fun KK hK => ?_
        refine step_full_k (E := stmE) rfl (.tmp 39) (.tmp 41) rfl ((out).take cpo) cpo (by have := HNO.out; simp <;> omega) _ (by simp [Act.eval, Act.put] <;> rfl) HR5.out.2.1 _ [((yh1, yh2), yk, yo, (ya1, ya2), (yb1, yb2), yi)] (by simp [Act.eval, Act.put] <;> rfl) HR5.out.2.2.2.2.2.1 (by simp) (by have := HNO.out; simp <;> omega) ?_
        intro v6 w6 ho6 hk6
        have hb5 := lt_of_heap HR5.out.2.2.2.1
        refine hK.out _ _ (HMK.out _ ((hk6.block _ hb5 (fun x => x)).trans HR5.out.2.2.2.1)) fun hHeld => ?_
        clear hK KK
        (try simp only [nz])
        have HR6 : Hid (KF W w6 ∧ W.heap.size ≤ b ∧ b < w5.heap.size ∧ w6.heap[b]? = some (bM yk yh1 yh2 yo ya1 ya2 yb1 yb2 yi) ∧ OwnK stmE W.heap.size w6 rv ((out).drop cpo) ∧ OwnK stmE w5.heap.size w6 v6 ((out).take cpo ++ [((yh1, yh2), yk, yo, (ya1, ya2), (yb1, yb2), yi)]) ∧ w5.heap.size ≤ w6.heap.size) := ⟨HR5.out.1.trans hk6, HR5.out.2.2.1, hb5, (hk6.block _ hb5 (fun x => x)).trans HR5.out.2.2.2.1, HR5.out.2.2.2.2.1.keeps hk6 (fun _ _ x => x), ho6, hk6.size⟩
        clear hk6 ho6 hb5 HR5
        refine on1 8 rfl fun KK hK => ?_
        refine step_app_k (E := stmE) rfl (.tmp 42) (.tmp 43) rfl w5.heap.size v6 ((out).take cpo ++ [((yh1, yh2), yk, yo, (ya1, ya2), (yb1, yb2), yi)]) (by simp [Act.eval, Act.put]) HR6.out.2.2.2.2.2.1 rv ((out).drop cpo) (by simp [Act.eval, Act.put]) HR6.out.2.2.2.2.1.src (by have := HNO.out; simp <;> omega) HR6.out.2.2.2.2.2.2 ?_
        intro v7 w7 ho7 hk7
        have hwS : Keeps (fun q => w5.heap.size ≤ q) w6 w7 := hk7.mono (fun q _ e => own_block HR6.out.2.2.2.2.2.1 q e)
        refine hK.out _ _ (HMK.out _ ((hwS.block _ (by have := HR6.out.2.2.1; have := HR6.out.2.2.2.2.2.2; omega) (by have := HR6.out.2.2.1; omega)).trans HR6.out.2.2.2.1)) fun hHeld => ?_
        clear hK KK
        (try simp only [nz])
        have HN2 : Hid (pu = (l.take (i + 1)).foldl (putO stmLt) [] ∧ KF W w7 ∧ OwnK stmE W.heap.size w7 v7 pu) := ⟨HFO.out.symm, HR6.out.1.trans_new hwS (fun q hq e => by have := HR6.out.2.1; have := HR6.out.2.2.1; omega), by
         rw [HE.out]
         exact ho7.base (by have := HR6.out.2.1; have := HR6.out.2.2.1; omega)⟩
        have hpl : pu.length ≤ i + 1 := HLN.out
        clear hk7 ho7 hwS HR6 HMK HFO HE HLN
        refine on1 9 rfl fun KK hK => ?_
        go_simp
        refine hK.out _ _ (hHeld) fun hHeld => ?_
        clear hK KK
        (try simp only [nz])
        refine wpAnyH_done (by kernel_rfl) ?_ _
        refine NoPanic.normal ?_
        clear hHeld
        go_wp2_with fail
        go_roundg (n - (i + 1))
        case measure => omega
        case rel => exact ⟨i + 1, pu, by omega, rfl, by go_num, hpl, HN2⟩
  ·obtain rfl : i = n := by omega
   have hiI : ¬ (i : Int) < (i : Int) := by omega
   have HX : Hid (KF W wr ∧ OwnK stmE W.heap.size wr u3 (sortO stmLt l)) := by
    have q := HI.out
    rw [List.take_of_length_le (by rw [HN.out]; exact Nat.le_refl _)] at q
    obtain ⟨rfl, q2, q3⟩ := q
    exact ⟨q2, q3⟩
   clear HI
   go_wp2_with fail
   go_ret
   exact ⟨_, rfl, HX⟩
end Go.Proofs.YtededjfjbkcepaaGreat
