/-
  A diagram where a variable is so: the walk of the closure.
-/
import Derived.Test.YtfakjhcpaiaekaaMG
import Derived.Test.YtfakjhcpaiaekaaMD
import Derived.Test.YtfakjhcpaiaekaaMA
import Derived.Deep.RegionWith
import Derived.Deep.RegionHeld3
set_option linter.unusedVariables false
set_option linter.unusedSimpArgs false
set_option linter.unnecessarySimpa false
namespace Go.Proofs.Ytfakjhcpaiaekaa
open Go.ChangeShapes Go.WideShapes Go.ChangeAt Go.RowKit Go.Deep NodePlain
def fnR (dx vx kx sx wx : Nat) : Value := .func (.func 55) #[] #[.pointer (some ⟨dx, 0, none⟩), .pointer (some ⟨vx, 0, none⟩), .pointer (some ⟨kx, 0, none⟩), .pointer (some ⟨sx, 0, none⟩), .pointer (some ⟨wx, 0, none⟩)]
/-- The blocks that may turn. -/
def Qr (Fp : Nat → Prop) (mb : Nat) : Nat → Prop := fun y => Fp y ∨ y = mb
/-- What the closure captured, and the maker. -/
structure RMem (W : World) (db mb : Nat) (V B : Int) (st : St) (calls : Int) (Fp : Nat → Prop) (N : Nat) (K : Int → Option Int) (dx vx kx sx wx : Nat) (v : Int) (so : Bool) : Prop where
  bd : Bd W db V B st calls Fp
  mp : IMap W mb N K
  c1 : W.cell? ⟨kx, 0, none⟩ = some (.map (some mb))
  c2 : W.cell? ⟨dx, 0, none⟩ = some (.pointer (some ⟨db, 0, none⟩))
  c3 : W.cell? ⟨wx, 0, none⟩ = some (fnR dx vx kx sx wx)
  c4 : W.cell? ⟨vx, 0, none⟩ = some (.int .i64 v)
  c5 : W.cell? ⟨sx, 0, none⟩ = some (.bool so)
  f0 : ¬ Fp mb
  n1 : ¬ Qr Fp mb kx
  n2 : ¬ Qr Fp mb dx
  n3 : ¬ Qr Fp mb wx
  n4 : ¬ Qr Fp mb vx
  n5 : ¬ Qr Fp mb sx
section
variable {W W' : World} {db mb : Nat} {V B : Int} {st st' : St} {calls calls' : Int} {Fp Fp' : Nat → Prop} {N N' : Nat} {K K' : Int → Option Int} {dx vx kx sx wx : Nat} {v : Int} {so : Bool}
theorem RMem.move (h : RMem W db mb V B st calls Fp N K dx vx kx sx wx v so) (hb : Bd W' db V B st' calls' Fp') (hm : IMap W' mb N' K') (m : Mv W W' (Qr Fp mb) (Qr Fp' mb)) (hf : ¬ Fp' mb) : RMem W' db mb V B st' calls' Fp' N' K' dx vx kx sx wx v so := by
  have nn : ∀ {x : Nat} {v : Value}, W.cell? ⟨x, 0, none⟩ = some v → ¬ Qr Fp mb x → ¬ Qr Fp' mb x := fun {x v} hx hn hq => by
    rcases m.fp x hq with e | e
    · exact hn e
    · have := lt_of_cell hx; simp only [] at this; omega
  exact ⟨hb, hm, (m.keeps.cell (p := ⟨kx, 0, none⟩) (lt_of_cell h.c1) h.n1).trans h.c1, (m.keeps.cell (p := ⟨dx, 0, none⟩) (lt_of_cell h.c2) h.n2).trans h.c2, (m.keeps.cell (p := ⟨wx, 0, none⟩) (lt_of_cell h.c3) h.n3).trans h.c3, (m.keeps.cell (p := ⟨vx, 0, none⟩) (lt_of_cell h.c4) h.n4).trans h.c4, (m.keeps.cell (p := ⟨sx, 0, none⟩) (lt_of_cell h.c5) h.n5).trans h.c5, hf, nn h.c1 h.n1, nn h.c2 h.n2, nn h.c3 h.n3, nn h.c4 h.n4, nn h.c5 h.n5⟩
theorem RMem.quiet (h : RMem W db mb V B st calls Fp N K dx vx kx sx wx v so) (hk : Keeps (fun _ => False) W W') : RMem W' db mb V B st calls Fp N K dx vx kx sx wx v so :=
  h.move (h.bd.quiet hk) (h.mp.keeps hk (fun x => x)) (Mv.quiet hk) h.f0
/-- Behind a call of the maker's own. -/
theorem RMem.made (h : RMem W db mb V B st calls Fp N K dx vx kx sx wx v so) (hb : BdTo db V B st' calls' W Fp W') : ∃ Fp', RMem W' db mb V B st' calls' Fp' N K dx vx kx sx wx v so ∧ Mv W W' (Qr Fp mb) (Qr Fp' mb) := by
  obtain ⟨Fp', h1, m⟩ := hb
  have hf : ¬ Fp' mb := fun hq => by
    rcases m.fp mb hq with e | e
    · exact h.f0 e
    · have := h.mp.lt; omega
  have m' : Mv W W' (Qr Fp mb) (Qr Fp' mb) := ⟨m.keeps.mono (fun k _ hk => .inl hk), fun x hx => by
    rcases hx with e | e
    · exact (m.fp x e).imp .inl id
    · exact .inl (.inr e)⟩
  exact ⟨Fp', h.move h1 (h.mp.keeps m.keeps h.f0) m' hf, m'⟩
/-- Behind a store in the map. -/
theorem RMem.store (h : RMem W db mb V B st calls Fp N K dx vx kx sx wx v so) (hm : IMap W' mb N' K') (hk : Keeps (fun k => k = mb) W W') : RMem W' db mb V B st calls Fp N' K' dx vx kx sx wx v so ∧ Mv W W' (Qr Fp mb) (Qr Fp mb) := by
  have m6 : Mv W W' (Qr Fp mb) (Qr Fp mb) := ⟨hk.mono (fun _ _ h => .inr h), fun _ h => .inl h⟩
  exact ⟨h.move (h.bd.keeps hk (fun x hx e => h.f0 (e ▸ hx))) hm m6 h.f0, m6⟩
/-- What a look leaves in memory. -/
def RPost (W : World) (db mb : Nat) (V B : Int) (st : St) (calls : Int) (Fp : Nat → Prop) (N : Nat) (dx vx kx sx wx : Nat) (v : Int) (so : Bool) (f : Int) (e : Ending) (W' : World) : Prop :=
  ∃ x st' N' K' Fp', e = .returned (.int .i64 x) ∧ Hid (RMem W' db mb V B st' calls Fp' N' K' dx vx kx sx wx v so) ∧ Hid (Mv W W' (Qr Fp mb) (Qr Fp' mb)) ∧ Hid (RsRel V B v so st f x st' K') ∧ Hid (N' ≤ N + costN V (varN V st.L st.n f))
/-- What is asked ahead of a look. -/
structure RPre (V B v : Int) (so : Bool) (st : St) (N : Nat) (K : Int → Option Int) (f : Int) : Prop where
  isf : isN st.n f = true
  ok : Ok V st
  bnd : st.n ≤ B ∧ (st.s = true → B ≤ st.n)
  snd : RSound V v so st K
  N : N + costN V (varN V st.L st.n f) ≤ 1000000
  n : st.n + costN V (varN V st.L st.n f) ≤ 10000000
  room : ((st.n + costN V (varN V st.L st.n f) : Nat) : Int) < B
set_option maxRecDepth 100000
set_option maxHeartbeats 3200000
theorem restrict_walk (hV0 : 0 ≤ V) (hV : V ≤ 8) (m : Nat) : ∀ (f : Int), f.toNat = m → ∀ (W : World) (st : St) (Fp : Nat → Prop) (N : Nat) (K : Int → Option Int),
    RMem W db mb V B st calls Fp N K dx vx kx sx wx v so → RPre V B v so st N K f →
    Calls Try.prog 55 #[.int .i64 f, .pointer (some ⟨dx, 0, none⟩), .pointer (some ⟨vx, 0, none⟩), .pointer (some ⟨kx, 0, none⟩), .pointer (some ⟨sx, 0, none⟩), .pointer (some ⟨wx, 0, none⟩)] W (RPost W db mb V B st calls Fp N dx vx kx sx wx v so f) := by
  induction m using Nat.strongRecOn with
  | _ m ih =>
  intro f hfm W st Fp N K hM hR
  have IH := Lib.hid ih
  clear ih
  have hn6 : st.n ≤ 10000000 := by have := hR.n; omega
  have hf0 := (isN_iff.1 hR.isf).1
  have hf1 := (isN_iff.1 hR.isf).2
  have hf2 : f ≤ 10000002 := by omega
  have HM := Lib.hid hM
  have HR := Lib.hid hR
  have c2 := hM.c2
  clear hM hR
  by_cases hlow : f < 2
  · have HP : Hid (∀ W', Keeps (fun _ => False) W W' → RPost W db mb V B st calls Fp N dx vx kx sx wx v so f (.returned (.int .i64 f)) W') := fun W' hk => ⟨f, st, N, K, Fp, rfl, HM.out.quiet hk, Mv.quiet hk, rs_self HR.out.ok HR.out.bnd HR.out.snd HR.out.isf (.inl hlow), by show N ≤ _; omega⟩
    have HMD : Hid (Calls Try.prog 56 #[.pointer (some ⟨db, 0, none⟩), .int .i64 f] W fun e W2 => e = .returned (.tuple #[.agg #[.int .i64 0, .int .i64 0, .int .i64 0], .bool false]) ∧ Below W.heap.size W W2) := by
      have q := bmade_spec HM.out.bd (by omega) f (by omega) (by omega)
      have hget : getN st.L st.n f = none := by unfold getN; rw [if_neg (by omega)]
      rw [hget] at q
      exact q
    clear IH HM HR
    go_enter Try.func55, Try.ntmps55
    go_wp2_with (go_at_call 56; refine HMD.out.mono ?_; rintro e wA ⟨rfl, hbA⟩)
    go_ret
    exact HP.out _ ((Keeps.of_below hbA (Nat.le_refl _)).alloc _)
  obtain ⟨i, rfl⟩ : ∃ i : Nat, f = (i : Int) + 2 := ⟨(f - 2).toNat, by omega⟩
  have hi : i < st.n := by omega
  obtain ⟨⟨ui, lo, hi'⟩, hL⟩ : ∃ p, st.L i = p := ⟨_, rfl⟩
  obtain ⟨p1, p2, p3, p4, p5, p6, p7, p8, p9⟩ := HR.out.ok.good.node i hi
  rw [hL] at p1 p2 p3 p4 p5 p6 p7 p8 p9
  simp only [] at p1 p2 p3 p4 p5 p6 p7 p8 p9
  obtain ⟨u, rfl⟩ := Int.eq_ofNat_of_zero_le p1
  have hget : getN st.L st.n ((i : Int) + 2) = some ((u : Int), lo, hi') := by unfold getN; rw [if_pos ⟨by omega, hf1⟩, show ((i : Int) + 2 - 2).toNat = i from by omega, hL]
  have hvar : varN V st.L st.n ((i : Int) + 2) = u := by rw [var_node hi, hL]
  have HMD : Hid (Calls Try.prog 56 #[.pointer (some ⟨db, 0, none⟩), .int .i64 ((i : Int) + 2)] W fun e W2 => e = .returned (.tuple #[.agg #[.int .i64 (u : Int), .int .i64 lo, .int .i64 hi'], .bool true]) ∧ Below W.heap.size W W2) := by
    have q := bmade_spec HM.out.bd (by omega) ((i : Int) + 2) (by omega) (by omega)
    rw [hget] at q
    exact q
  have HC := Lib.hid (cost_step p2 p7 p8)
  have HV := Lib.hid (And.intro hvar (And.intro p2 (And.intro p7 p8)))
  have HLI := Lib.hid hL
  have c4 := HM.out.c4
  clear hget hL hvar p2 p7 p8 p9
  by_cases huv : v < (u : Int)
  · have HP : Hid (∀ W', Keeps (fun _ => False) W W' → RPost W db mb V B st calls Fp N dx vx kx sx wx v so ((i : Int) + 2) (.returned (.int .i64 ((i : Int) + 2))) W') := fun W' hk => ⟨_, st, N, K, Fp, rfl, HM.out.quiet hk, Mv.quiet hk, rs_self HR.out.ok HR.out.bnd HR.out.snd HR.out.isf (.inr (by rw [HV.out.1]; exact huv)), by show N ≤ _; omega⟩
    have hlv := lt_of_cell c4
    simp only [] at hlv
    clear IH HR
    go_enter Try.func55, Try.ntmps55
    go_wp2_with (go_at_call 56; refine HMD.out.mono ?_; rintro e wA ⟨rfl, hbA⟩; have c4a := (HM.out.quiet (Keeps.of_below hbA (Nat.le_refl _))).c4; have hlva := lt_of_cell c4a; simp only [] at hlva)
    go_ret
    exact HP.out _ ((Keeps.of_below hbA (Nat.le_refl _)).alloc _)
  have huv' : ¬ ((u : Int) > v) := by omega
  go_enter Try.func55, Try.ntmps55
  go_upto_region 2 with (go_at_call 56; refine HMD.out.mono ?_; rintro e wA ⟨rfl, hbA⟩)
  have hkA : Keeps (fun _ => False) W wA := Keeps.of_below hbA (Nat.le_refl _)
  have hal := (MapKept.heap_alloc wA (.cells #[.int .i64 (u : Int), .int .i64 lo, .int .i64 hi'] 82)).1
  have hk5 : Keeps (fun _ => False) W (wA.alloc (.cells #[.int .i64 (u : Int), .int .i64 lo, .int .i64 hi'] 82)) := hkA.alloc _
  have HXB : Hid (¬ Qr Fp mb wA.heap.size) := fun hq => by
    have hs := hkA.size
    rcases hq with e | e
    · have := HM.out.bd.lt _ e; omega
    · have := HM.out.mp.lt; omega
  have M5 := Lib.hid (HM.out.quiet hk5)
  have HK5 := Lib.hid hk5
  have HAL := Lib.hid hal
  have d0 := cell_of_heap hal 0
  have d1 := cell_of_heap hal 1
  have d2 := cell_of_heap hal 2
  simp only [List.getElem?_toArray, List.getElem?_cons_zero, List.getElem?_cons_succ] at d0 d1 d2
  clear hbA HMD c2 c4 hkA hk5 hal
  generalize hw5 : wA.alloc (.cells #[.int .i64 (u : Int), .int .i64 lo, .int .i64 hi'] 82) = w5 at *
  clear hw5
  have c4 := M5.out.c4
  have c1 := M5.out.c1
  have c5 := M5.out.c5
  have hlook := M5.out.mp.look (x := (i : Int) + 2) (by omega) (by omega)
  have HNS := Lib.hid (And.intro hn6 (And.intro hf0 (And.intro hf1 (And.intro hf2 hfm))))
  clear hn6 hf0 hf1 hf2 hfm
  cases hK : K ((i : Int) + 2) with
  | some x =>
    rw [hK] at hlook
    simp only [Option.getD_some, Option.isSome_some] at hlook
    have HP : Hid (RPost W db mb V B st calls Fp N dx vx kx sx wx v so ((i : Int) + 2) (.returned (.int .i64 x)) w5) :=
      ⟨x, st, N, K, Fp, rfl, M5, Mv.quiet HK5.out, rs_known HR.out.ok HR.out.bnd HR.out.snd hK, by show N ≤ _; omega⟩
    clear IH HM HR hK
    go_wp2_with fail
    go_ret
    exact HP.out
  | none =>
  rw [hK] at hlook
  simp only [Option.getD_none, Option.isSome_none] at hlook
  clear hK
  by_cases huE : (u : Int) = v
  · have hrel := rs_eq HR.out.ok HR.out.bnd (v := v) (so := so) HR.out.snd hi (by rw [HLI.out, huE])
    have hx := isN_iff.1 hrel.isx
    obtain ⟨x, hxe⟩ : ∃ x, (if so then hi' else lo) = x := ⟨_, rfl⟩
    rw [hxe] at hrel hx
    have hf2 := HNS.out.2.2.2.1
    have hn6 := HNS.out.1
    have HNN : Hid (N < maxLen) := by show N < maxLen; have := HR.out.N; unfold maxLen; omega
    obtain ⟨w6, hrun, hmap, hk6⟩ := M5.out.mp.update HNN.out (x := (i : Int) + 2) (y := x) (by omega) (by omega) (by omega) (by omega)
    obtain ⟨hM6, hV6⟩ := M5.out.store hmap hk6
    have HP : Hid (RPost W db mb V B st calls Fp N dx vx kx sx wx v so ((i : Int) + 2) (.returned (.int .i64 x)) w6) :=
      ⟨x, st, N + 1, _, Fp, rfl, hM6, (Mv.quiet HK5.out).trans hV6, hrel, by show N + 1 ≤ N + costN V (varN V st.L st.n ((i : Int) + 2)); rw [HV.out.1]; have := HC.out; omega⟩
    clear IH HM HR hmap hk6 hM6 hV6 hrel hf2 hn6 hx
    cases so with
    | true =>
      rw [if_pos rfl] at hxe
      subst hxe
      go_wp2_with fail
      go_ret
      exact HP.out
    | false =>
      rw [if_neg (by decide)] at hxe
      subst hxe
      have hlt : ¬ (u : Int) < v := by omega
      go_wp2_with fail
      go_ret
      exact HP.out
  have huL : (u : Int) < v := by omega
  have hueb : ((u : Int) == v) = false := beq_eq_false_iff_ne.2 huE
  have HS5 : Hid (∀ W', Keeps (Qr Fp mb) w5 W' → (fun w' => w'.cell? ⟨dx, 0, none⟩ = some (.pointer (some ⟨db, 0, none⟩)) ∧ w'.cell? ⟨wx, 0, none⟩ = some (.func (.func 55) #[] #[.pointer (some ⟨dx, 0, none⟩), .pointer (some ⟨vx, 0, none⟩), .pointer (some ⟨kx, 0, none⟩), .pointer (some ⟨sx, 0, none⟩), .pointer (some ⟨wx, 0, none⟩)]) ∧ w'.cell? ⟨wA.heap.size, 0, none⟩ = some (.int .i64 (u : Int)) ∧ w'.cell? ⟨wA.heap.size, 1, none⟩ = some (.int .i64 lo) ∧ w'.cell? ⟨wA.heap.size, 2, none⟩ = some (.int .i64 hi')) W') := fun W' hk => by
    have e := (hk.block _ (lt_of_heap HAL.out) HXB.out).trans HAL.out
    exact ⟨(hk.cell (p := ⟨dx, 0, none⟩) (lt_of_cell M5.out.c2) M5.out.n2).trans M5.out.c2, (hk.cell (p := ⟨wx, 0, none⟩) (lt_of_cell M5.out.c3) M5.out.n3).trans M5.out.c3, by rw [cell_of_heap e]; rfl, by rw [cell_of_heap e]; rfl, by rw [cell_of_heap e]; rfl⟩
  have H5 : (fun w' => w'.cell? ⟨dx, 0, none⟩ = some (.pointer (some ⟨db, 0, none⟩)) ∧ w'.cell? ⟨wx, 0, none⟩ = some (.func (.func 55) #[] #[.pointer (some ⟨dx, 0, none⟩), .pointer (some ⟨vx, 0, none⟩), .pointer (some ⟨kx, 0, none⟩), .pointer (some ⟨sx, 0, none⟩), .pointer (some ⟨wx, 0, none⟩)]) ∧ w'.cell? ⟨wA.heap.size, 0, none⟩ = some (.int .i64 (u : Int)) ∧ w'.cell? ⟨wA.heap.size, 1, none⟩ = some (.int .i64 lo) ∧ w'.cell? ⟨wA.heap.size, 2, none⟩ = some (.int .i64 hi')) w5.drew := HS5.out _ ((Keeps.refl _ _).drew)
  have HCL : Hid (∀ (W' : World) (st' : St) (Fp' : Nat → Prop) (N' : Nat) (K' : Int → Option Int) (f' : Int), f'.toNat < m → RMem W' db mb V B st' calls Fp' N' K' dx vx kx sx wx v so → RPre V B v so st' N' K' f' → Calls Try.prog 55 #[.int .i64 f', .pointer (some ⟨dx, 0, none⟩), .pointer (some ⟨vx, 0, none⟩), .pointer (some ⟨kx, 0, none⟩), .pointer (some ⟨sx, 0, none⟩), .pointer (some ⟨wx, 0, none⟩)] W' (RPost W' db mb V B st' calls Fp' N' dx vx kx sx wx v so f')) := fun W' st' Fp' N' K' f' hf hm hp => IH.out f'.toNat hf f' rfl W' st' Fp' N' K' hm hp
  have hfm := HNS.out.2.2.2.2
  have hlt1 : lo.toNat < m := by omega
  have hlt2 : hi'.toNat < m := by omega
  have hcst := HC.out
  have hRN := HR.out.N
  have hRn := HR.out.n
  have hRr := HR.out.room
  rw [HV.out.1] at hRN hRn hRr
  have hPl : RPre V B v so st N K lo := ⟨isN_iff.2 ⟨p3, by omega⟩, HR.out.ok, HR.out.bnd, HR.out.snd, by omega, by omega, by omega⟩
  have HP3 := Lib.hid (And.intro hPl (And.intro hcst (And.intro hRN (And.intro hRn (And.intro hRr hfm)))))
  clear hcst hRN hRn hRr hPl hfm
  go_upto_region 11 with fail
  obtain ⟨hPl, hcst, hRN, hRn, hRr, hfm⟩ := HP3.out
  obtain ⟨hn6, hf0, hf1, hf2, _⟩ := HNS.out
  clear d0 d1 d2 c4 c1 c5 hlook
  refine wp_region_noPanic ?_
  refine wp_region_held_drew (S := (fun w' => w'.cell? ⟨dx, 0, none⟩ = some (.pointer (some ⟨db, 0, none⟩)) ∧ w'.cell? ⟨wx, 0, none⟩ = some (.func (.func 55) #[] #[.pointer (some ⟨dx, 0, none⟩), .pointer (some ⟨vx, 0, none⟩), .pointer (some ⟨kx, 0, none⟩), .pointer (some ⟨sx, 0, none⟩), .pointer (some ⟨wx, 0, none⟩)]) ∧ w'.cell? ⟨wA.heap.size, 0, none⟩ = some (.int .i64 (u : Int)) ∧ w'.cell? ⟨wA.heap.size, 1, none⟩ = some (.int .i64 lo) ∧ w'.cell? ⟨wA.heap.size, 2, none⟩ = some (.int .i64 hi'))) (by kernel_rfl) H5 (fun hHeld => ?_)
  refine wpAnyH_take_at (i := 0) (v := ?v0a) rfl (by kernel_rfl) (by kernel_rfl) (by kernel_rfl) (fun _ _ _ h => h) (Or.inl ⟨by rfl, ?y0a⟩) hHeld ?r0a
  case y0a => (intro w hSw; (try dsimp only at hSw); go_simp; first | done | with_reducible rfl)
  (try simp only [Act.put, List.setIfInBounds_toArray, List.set_cons_zero, List.set_cons_succ])
  refine wpAnyH_take_at (i := 1) (v := ?v1a) rfl (by kernel_rfl) (by kernel_rfl) (by kernel_rfl) (fun _ _ _ h => h) (Or.inl ⟨by rfl, ?y1a⟩) hHeld ?r1a
  case y1a => (intro w hSw; (try dsimp only at hSw); go_simp; first | done | with_reducible rfl)
  (try simp only [Act.put, List.setIfInBounds_toArray, List.set_cons_zero, List.set_cons_succ])
  refine wpAnyH_take_at (i := 2) (v := ?v2a) rfl (by kernel_rfl) (by kernel_rfl) (by kernel_rfl) (fun _ _ _ h => h) (Or.inl ⟨by rfl, ?y2a⟩) hHeld ?r2a
  case y2a => (intro w hSw; (try dsimp only at hSw); go_simp; first | done | with_reducible rfl)
  (try simp only [Act.put, List.setIfInBounds_toArray, List.set_cons_zero, List.set_cons_succ])
  refine wpAnyH_take_at (i := 3) (v := ?v3a) rfl (by kernel_rfl) (by kernel_rfl) (by kernel_rfl) (fun _ _ _ h => h) (Or.inl ⟨by rfl, ?y3a⟩) hHeld ?r3a
  case y3a => (intro w hSw; (try dsimp only at hSw); go_simp; first | done | with_reducible rfl)
  (try simp only [Act.put, List.setIfInBounds_toArray, List.set_cons_zero, List.set_cons_succ])
  refine wpAnyH_take_at (i := 4) (v := ?v4a) rfl (by kernel_rfl) (by kernel_rfl) (by kernel_rfl) (fun _ _ _ h => h) (Or.inl ⟨by rfl, ?y4a⟩) hHeld ?r4a
  case y4a => (intro w hSw; (try dsimp only at hSw); go_simp; first | done | with_reducible rfl)
  (try simp only [Act.put, List.setIfInBounds_toArray, List.set_cons_zero, List.set_cons_succ])
  refine wpAnyH_take_at (i := 5) (v := ?v5a) rfl (by kernel_rfl) (by kernel_rfl) (by kernel_rfl) (fun _ _ _ h => h) (Or.inl ⟨by rfl, ?y5a⟩) hHeld ?r5a
  case y5a => (intro w hSw; (try dsimp only at hSw); go_simp; first | done | with_reducible rfl)
  (try simp only [Act.put, List.setIfInBounds_toArray, List.set_cons_zero, List.set_cons_succ])
  refine wpAnyH_take_at (i := 7) (v := ?v7a) rfl (by kernel_rfl) (by kernel_rfl) (by kernel_rfl) (fun _ _ _ h => h) (Or.inl ⟨by rfl, ?y7a⟩) hHeld ?r7a
  case y7a => (intro w hSw; (try dsimp only at hSw); go_simp; first | done | with_reducible rfl)
  (try simp only [Act.put, List.setIfInBounds_toArray, List.set_cons_zero, List.set_cons_succ])
  refine wpAnyH_take_at (i := 8) (v := ?v8a) rfl (by kernel_rfl) (by kernel_rfl) (by kernel_rfl) (fun _ _ _ h => h) (Or.inl ⟨by rfl, ?y8a⟩) hHeld ?r8a
  case y8a => (intro w hSw; (try dsimp only at hSw); go_simp; first | done | with_reducible rfl)
  (try simp only [Act.put, List.setIfInBounds_toArray, List.set_cons_zero, List.set_cons_succ])
  refine wpAnyH_take_at (i := 9) (v := ?v9a) rfl (by kernel_rfl) (by kernel_rfl) (by kernel_rfl) (fun _ _ _ h => h) (Or.inl ⟨by rfl, ?y9a⟩) hHeld ?r9a
  case y9a => (intro w hSw; (try dsimp only at hSw); go_simp; first | done | with_reducible rfl)
  (try simp only [Act.put, List.setIfInBounds_toArray, List.set_cons_zero, List.set_cons_succ])
  refine wpAnyH_one (i := 6) (by kernel_rfl) rfl (fun KK hK => ?_)
  go_simp
  refine (HCL.out _ st Fp N K lo hlt1 (M5.out.quiet ((Keeps.refl _ _).drew)) hPl).mono ?_
  rintro e wB ⟨x, s1, N1, K1, F1, rfl, MB, VB, RB, CB⟩
  go_simp
  have VB5 : Hid (Mv w5 wB (Qr Fp mb) (Qr F1 mb)) := (Mv.quiet (Fp := Qr Fp mb) ((Keeps.refl (fun _ => False) w5).drew)).trans VB.out
  have hvy : varN V s1.L s1.n hi' = varN V st.L st.n hi' := RB.out.ext.var (by omega)
  have hPh : RPre V B v so s1 N1 K1 hi' := by
    have b1 := RB.out.n
    have b2 := CB.out
    exact ⟨RB.out.ext.is (isN_iff.2 ⟨p5, by omega⟩), RB.out.ok, RB.out.bnd, RB.out.snd, by rw [hvy]; omega, by rw [hvy]; omega, by rw [hvy]; omega⟩
  refine hK.out _ _ ?s6a (fun hHeld => ?_)
  case s6a => exact HS5.out _ VB5.out.keeps
  clear hK KK
  (try simp only [Act.put, List.setIfInBounds_toArray, List.set_cons_zero, List.set_cons_succ])
  refine wpAnyH_one (i := 10) (by kernel_rfl) rfl (fun KK hK => ?_)
  go_simp
  refine (HCL.out _ s1 F1 N1 K1 hi' hlt2 MB.out hPh).mono ?_
  rintro e wC ⟨y, s2, N2, K2, F2, rfl, MC, VC, RC, CC⟩
  go_simp
  have VC5 : Hid (Mv w5 wC (Qr Fp mb) (Qr F2 mb)) := VB5.out.trans VC.out
  obtain ⟨r, hr⟩ : ∃ r, makeM V B s2 u x y = r := ⟨_, rfl⟩
  obtain ⟨j1, j2, j3⟩ := rs_join hV0 HR.out.ok hi HLI.out huL RB.out RC.out hRr hr
  have hfit := fitN_iff.1 j1
  have hMK : Calls Try.prog 57 #[.pointer (some ⟨db, 0, none⟩), .int .i64 (u : Int), .int .i64 x, .int .i64 y] wC fun e W2 => ∃ F3, e = .returned (.int .i64 r.1) ∧ Hid (RMem W2 db mb V B r.2 calls F3 N2 K2 dx vx kx sx wx v so) ∧ Hid (Mv wC W2 (Qr F2 mb) (Qr F3 mb)) := by
    have q := bmake_spec MC.out.bd (by omega) (u : Int) x y (by omega) (by omega) (by omega) (by omega) (by omega) (by omega)
    rw [hr] at q
    refine q.mono fun e W2 ⟨h1, h2⟩ => ?_
    obtain ⟨F3, m1, m2⟩ := MC.out.made h2.out
    exact ⟨F3, h1, m1, m2⟩
  have HMK := Lib.hid hMK
  have HREL := Lib.hid j3
  have HCNT : Hid (N2 + 1 ≤ N + costN V (varN V st.L st.n ((i : Int) + 2)) ∧ N2 < 2000000) := by
    show N2 + 1 ≤ N + costN V (varN V st.L st.n ((i : Int) + 2)) ∧ N2 < 2000000
    have b1 := CB.out
    have b2 := CC.out
    rw [hvy] at b2
    rw [HV.out.1]
    exact ⟨by omega, by omega⟩
  have hu := isN_iff.1 j3.isx
  have hrn := j3.n
  rw [HV.out.1] at hrn
  have hu1 : r.1 ≤ 100000000 := by omega
  have hu0 := hu.1
  clear hMK j1 j2 j3 hfit hu hrn hr
  refine hK.out _ _ ?s10a (fun hHeld => ?_)
  case s10a => exact HS5.out _ VC5.out.keeps
  clear hK KK
  (try simp only [Act.put, List.setIfInBounds_toArray, List.set_cons_zero, List.set_cons_succ])
  refine wpAnyH_one (i := 11) (by kernel_rfl) rfl (fun KK hK => ?_)
  go_simp
  refine HMK.out.mono ?_
  rintro e wD ⟨F3, rfl, MD, VD⟩
  go_simp
  have VD5 : Hid (Mv w5 wD (Qr Fp mb) (Qr F3 mb)) := VC5.out.trans VD.out
  refine hK.out _ _ ?s11a (fun hHeld => ?_)
  case s11a => exact HS5.out _ VD5.out.keeps
  clear hK KK
  (try simp only [Act.put, List.setIfInBounds_toArray, List.set_cons_zero, List.set_cons_succ])
  refine wpAnyH_take_at (i := 12) (v := ?v12a) rfl (by kernel_rfl) (by kernel_rfl) (by kernel_rfl) (fun _ _ _ h => h) (Or.inl ⟨by rfl, ?y12a⟩) hHeld ?r12a
  case y12a => (intro w hSw; (try dsimp only at hSw); go_simp; first | done | with_reducible rfl)
  (try simp only [Act.put, List.setIfInBounds_toArray, List.set_cons_zero, List.set_cons_succ])
  refine wpAnyH_done (by kernel_rfl) ?_ _
  refine NoPanic.normal ?_
  clear hHeld H5 HS5 HCL IH MB VB VC VB5 HMK hPl hPh RB RC CB CC
  obtain ⟨w6, hrun, hmap, hk6⟩ := MD.out.mp.update (by have := HCNT.out.2; unfold maxLen; omega) (x := (i : Int) + 2) (y := r.1) (by omega) (by omega) (by omega) (by omega)
  obtain ⟨hM6, hV6⟩ := MD.out.store hmap hk6
  have c1 := MD.out.c1
  have HP : Hid (RPost W db mb V B st calls Fp N dx vx kx sx wx v so ((i : Int) + 2) (.returned (.int .i64 r.1)) w6) :=
    ⟨r.1, r.2, N2 + 1, _, F3, rfl, hM6, ((Mv.quiet HK5.out).trans VD5.out).trans hV6, HREL, HCNT.out.1⟩
  clear hmap hk6 hM6 hV6 MD VD5 HREL HCNT
  go_wp2_with fail
  go_ret
  exact HP.out
end
end Go.Proofs.Ytfakjhcpaiaekaa
