/-
  The program's Check and Proves, of any steps and any rules.
-/
import Derived.Test.YtahnedkdodjomaaProofDead
import Derived.Test.YtahnedkdodjomaaProofRightJoin
set_option linter.unusedVariables false
set_option linter.unusedSimpArgs false
set_option linter.unnecessarySimpa false
namespace Go.Proofs.Ytahnedkdodjomaa
open Go.ChangeShapes Go.WideShapes Go.ChangeAt Go.RowKit Go.Deep SetPlain
/-- What was proved, behind some steps, and how one more is put. -/
structure Pre (w : World) (kb kx : Nat) (p k : Int) (rs : List Rl) (KI : List Sp → World → Prop) : Prop where
  put : ∀ l W (s : Sp), KI l W → Calls Try.prog 22 #[.pointer (some ⟨kb, 0, none⟩), .agg #[.int .i64 s.rule, .int .i64 s.role, .int .i64 s.who, .int .i64 s.mid]] W fun e W' => e = .returned (.bool (mayB p k rs l s)) ∧ Hid (KI (putL p k rs l s) W')
  quiet : ∀ l W W', KI l W → Keeps (fun _ => False) W W' → KI l W'
  base : ∀ l W, KI l W → Keeps (fun _ => False) w W
  box : ∀ l W, KI l W → W.heap[kx]? = some (.cells #[.pointer (some ⟨kb, 0, none⟩)] 48)
/-- Where the first step that may not be stands. -/
def IdxPost (w : World) (Pr : Prop) (e : Ending) (W' : World) : Prop := ∃ x : Int, e = .returned (.int .i64 x) ∧ Hid ((x < 0 ↔ Pr) ∧ Keeps (fun _ => False) w W')
/-- Is there a step that may not be? -/
def ConPost (w : World) (Pr : Prop) (e : Ending) (W' : World) : Prop := ∃ b, e = .returned (.bool b) ∧ Hid ((b = false ↔ Pr) ∧ Keeps (fun _ => False) w W')
section
variable {w W : World} {kb kx : Nat} {p k : Int} {rs : List Rl} {KI : List Sp → World → Prop} {l : List Sp}
set_option maxRecDepth 100000
set_option maxHeartbeats 3200000
theorem kclos_spec (H : Pre w kb kx p k rs KI) (hK : KI l W) (s : Sp) :
    Calls Try.prog 21 #[.agg #[.int .i64 s.rule, .int .i64 s.role, .int .i64 s.who, .int .i64 s.mid], .pointer (some ⟨kx, 0, none⟩)] W fun e W' => e = .returned (.bool (!mayB p k rs l s)) ∧ Hid (KI (putL p k rs l s) W') := by
  have hk0 : Keeps (fun _ => False) W (W.alloc (SpObj s)) := (Keeps.refl _ _).alloc _
  have hK1 := H.quiet _ _ _ hK hk0
  have hbx := H.box _ _ hK1
  have hal : (W.alloc (SpObj s)).heap[W.heap.size]? = some (SpObj s) := (MapKept.heap_alloc W _).1
  have HP := Lib.hid (H.put _ _ s hK1)
  have x0 : (W.alloc (SpObj s)).cell? ⟨kx, 0, none⟩ = some (.pointer (some ⟨kb, 0, none⟩)) := by rw [cell_of_heap hbx]; rfl
  unfold SpObj at hal
  have y0 : (W.alloc (SpObj s)).cell? ⟨W.heap.size, 0, none⟩ = some (.int .i64 s.rule) := by unfold SpObj; rw [cell_of_heap hal]; rfl
  have y1 : (W.alloc (SpObj s)).cell? ⟨W.heap.size, 1, none⟩ = some (.int .i64 s.role) := by unfold SpObj; rw [cell_of_heap hal]; rfl
  have y2 : (W.alloc (SpObj s)).cell? ⟨W.heap.size, 2, none⟩ = some (.int .i64 s.who) := by unfold SpObj; rw [cell_of_heap hal]; rfl
  have y3 : (W.alloc (SpObj s)).cell? ⟨W.heap.size, 3, none⟩ = some (.int .i64 s.mid) := by unfold SpObj; rw [cell_of_heap hal]; rfl
  obtain ⟨v, hv⟩ : ∃ v, mayB p k rs l s = v := ⟨_, rfl⟩
  obtain ⟨l', hl'⟩ : ∃ v, putL p k rs l s = v := ⟨_, rfl⟩
  rw [hv, hl'] at HP
  rw [hv, hl']
  obtain ⟨rule, role, who, mid⟩ := s
  unfold SpObj at HP x0 y0 y1 y2 y3
  simp only [] at HP x0 y0 y1 y2 y3
  clear hv hl' hal hbx hK1 hk0 hK H
  go_enter Try.func21, Try.ntmps21
  go_wp2_with (go_at_call 22; refine HP.out.mono ?_; rintro e wA ⟨rfl, hA⟩)
  go_ret
  exact ⟨rfl, hA⟩
theorem chk_take_succ {j : Nat} {s : Sp} (hs : l[j]? = some s) (h : mayB p k rs (l.take j) s = true) : putL p k rs (l.take j) s = l.take (j + 1) := by
  unfold putL
  rw [h, if_pos rfl, List.take_add_one, hs]
  rfl
theorem kindex_spec (H : Pre w kb kx p k rs KI) (hK : KI [] W) {so : Option Addr} {n cap : Nat} (hS : StRow w so l) (hh : l.length = n) (hcap : n ≤ cap) (hlen : n ≤ 1000000) :
    Calls Try.prog 30 #[.slice so n cap, .func (.func 21) #[] #[.pointer (some ⟨kx, 0, none⟩)]] W (IdxPost w (Chk p k rs l)) := by
  have HS := Lib.hid hS
  have HH := Lib.hid H
  have HL := Lib.hid hh
  have HK0 := Lib.hid hK
  clear H hS hK hh
  go_enter Try.func30, Try.ntmps30
  go_wp2_with fail
  go_loopg [8] n (fun g t wy => ∃ (j : Nat), j ≤ n ∧ g = n - j ∧ t = .int .i64 j ∧ Hid (KI (l.take j) wy ∧ ∀ (i : Nat) (s : Sp), i < j → l[i]? = some s → mayB p k rs (l.take i) s = true))
  case atStart => exact ⟨0, Nat.zero_le _, rfl, rfl, HK0.out, fun i s h => absurd h (Nat.not_lt_zero _)⟩
  case round =>
    clear HK0
    obtain ⟨j, hj, rfl, rfl, HI⟩ := hrel
    by_cases hlt : j < n
    · have hjI : (j : Int) < (n : Int) := by omega
      have hwj : IntKind.i64.wrap ((j : Int) + 1) = (j : Int) + 1 := IntWalk.i64_in _ (by omega)
      obtain ⟨s, hs⟩ : ∃ s, l[j]? = some s := ⟨_, List.getElem?_eq_getElem (by rw [HL.out]; exact hlt)⟩
      obtain ⟨bb, off, rfl, hbb, hc⟩ := (HS.out.keeps (HH.out.base _ _ HI.out.1)) (by rw [HL.out]; omega)
      obtain ⟨c0, c1, c2, c3⟩ := hc j s hs
      have HC := Lib.hid (kclos_spec HH.out HI.out.1 s)
      have HNO : Hid (mayB p k rs (l.take j) s = false → ∀ w', KI (putL p k rs (l.take j) s) w' → ((j : Int) < 0 ↔ Chk p k rs l) ∧ Keeps (fun _ => False) w w') := fun h w' hk => by
        refine ⟨⟨fun e => absurd e (by omega), fun e => ?_⟩, HH.out.base _ _ hk⟩
        rw [e j s hs] at h; cases h
      have HYES : Hid (mayB p k rs (l.take j) s = true → ∀ w', KI (putL p k rs (l.take j) s) w' → KI (l.take (j + 1)) w' ∧ ∀ (i : Nat) (s : Sp), i < j + 1 → l[i]? = some s → mayB p k rs (l.take i) s = true) := fun h w' hk => by
        refine ⟨by rw [← chk_take_succ hs h]; exact hk, fun i x hi hx => ?_⟩
        rcases Nat.lt_or_eq_of_le (Nat.le_of_lt_succ hi) with h2 | h2
        · exact HI.out.2 i x h2 hx
        · subst h2; rw [hs] at hx; cases hx; exact h
      obtain ⟨v, hv⟩ : ∃ v, mayB p k rs (l.take j) s = v := ⟨_, rfl⟩
      obtain ⟨l', hl'⟩ : ∃ v, putL p k rs (l.take j) s = v := ⟨_, rfl⟩
      rw [hv, hl'] at HC HNO HYES
      obtain ⟨rule, role, who, mid⟩ := s
      simp only [] at c0 c1 c2 c3 HC
      clear hv hl' hc hs HI
      cases v with
      | true =>
        have HY1 := Lib.hid (HYES.out rfl)
        clear HYES HNO
        go_wp2_with (go_at_call 21; refine HC.out.mono ?_; rintro e wA ⟨rfl, hA⟩)
        have HN := Lib.hid (HY1.out _ hA.out)
        clear HC HY1 hA c0 c1 c2 c3
        go_wp2_with fail
        go_roundg (n - (j + 1))
        case measure => omega
        case rel => exact ⟨j + 1, by omega, rfl, by go_num, HN⟩
      | false =>
        have HY1 := Lib.hid (HNO.out rfl)
        clear HYES HNO
        go_wp2_with (go_at_call 21; refine HC.out.mono ?_; rintro e wA ⟨rfl, hA⟩)
        have HN := Lib.hid (HY1.out _ hA.out)
        clear HC HY1 hA c0 c1 c2 c3
        go_wp2_with fail
        go_ret
        exact ⟨_, rfl, HN⟩
    · have hjE : j = n := by omega
      have hjI : ¬ (j : Int) < (n : Int) := by omega
      have HN : Hid (((-1 : Int) < 0 ↔ Chk p k rs l) ∧ Keeps (fun _ => False) w wr) := by
        refine ⟨⟨fun _ i s hs => HI.out.2 i s ?_ hs, fun _ => by decide⟩, HH.out.base _ _ HI.out.1⟩
        rcases Nat.lt_or_ge i l.length with h | h
        · rw [HL.out] at h; omega
        · rw [List.getElem?_eq_none h] at hs; cases hs
      clear HI
      go_wp2_with fail
      go_ret
      exact ⟨_, rfl, HN⟩
theorem kcontains_spec (H : Pre w kb kx p k rs KI) (hK : KI [] W) {so : Option Addr} {n cap : Nat} (hS : StRow w so l) (hh : l.length = n) (hcap : n ≤ cap) (hlen : n ≤ 1000000) :
    Calls Try.prog 20 #[.slice so n cap, .func (.func 21) #[] #[.pointer (some ⟨kx, 0, none⟩)]] W (ConPost w (Chk p k rs l)) := by
  have HC := Lib.hid (kindex_spec H hK hS hh hcap hlen)
  have HFIN : Hid (∀ (x : Int) w', ((x < 0 ↔ Chk p k rs l) ∧ Keeps (fun _ => False) w w') → ConPost w (Chk p k rs l) (.returned (.bool (decide (0 ≤ x)))) w') := fun x w' h => ⟨_, rfl, by rw [← h.1]; simp, h.2⟩
  clear H hK hS
  go_enter Try.func20, Try.ntmps20
  go_wp2_with (go_at_call 30; refine HC.out.mono ?_; rintro e wA ⟨x, rfl, hA⟩)
  have HF := Lib.hid (HFIN.out _ _ hA.out)
  clear HC HFIN hA
  go_ret
  exact HF.out
end
theorem mayB_dead {p k : Int} (hd : p < 0 ∨ k < 0) (rs : List Rl) (l : List Sp) (s : Sp) : mayB p k rs l s = false := by
  unfold mayB needsL
  rw [needsR_no (.inl (ruleAt_dead hd rs s.rule))]
  rfl
section
variable {W : World} {kb : Nat} {p k : Int} {ao : Option Addr} {n cap mb : Nat} {vs : Value} {l : List Sp} {rs : List Rl}
set_option maxRecDepth 100000
set_option maxHeartbeats 3200000
theorem put_dead (hd : p < 0 ∨ k < 0) (hp : p ≤ 64) (hk : k ≤ 64) (h : KnMem W kb p k ao n cap mb vs l) (hrs : rs.length = n) (hcap : n ≤ cap) (hR : RuleRow W ao rs) (s : Sp) :
    Calls Try.prog 22 #[.pointer (some ⟨kb, 0, none⟩), .agg #[.int .i64 s.rule, .int .i64 s.role, .int .i64 s.who, .int .i64 s.mid]] W fun e W' => e = .returned (.bool false) ∧ Hid (Keeps (fun _ => False) W W') := by
  have hk0 : Keeps (fun _ => False) W (W.alloc (SpObj s)) := (Keeps.refl _ _).alloc _
  have HM0 := may_spec hp hk (h.quiet hk0) hrs hcap (hR.keeps (hk0.below (Nat.le_refl _) (fun _ _ x => x)) (fun _ _ _ h => h)) s
  rw [mayB_dead hd] at HM0
  obtain ⟨rule, role, who, mid⟩ := s
  have HR2 := Lib.hid HM0
  simp only [] at HR2
  have HE : Hid (∀ wA, Below (W.alloc (SpObj ⟨rule, role, who, mid⟩)).heap.size (W.alloc (SpObj ⟨rule, role, who, mid⟩)) wA → Keeps (fun _ => False) W wA) := fun wA hb => hk0.trans (Keeps.of_below hb (Nat.le_refl _))
  clear h HM0 hR hk0
  go_enter Try.func22, Try.ntmps22
  go_upto_region 1 with fail
  go_wp2_with (go_at_call 31; refine HR2.out.mono ?_; rintro e wA ⟨rfl, hka⟩)
  have HP := Lib.hid (HE.out wA hka)
  clear HR2 HE hka
  go_ret
  exact ⟨rfl, HP⟩
end
/-- The dimensions that may be. -/
def Dims (p k : Int) : Prop := (∃ P K : Nat, p = P ∧ k = K ∧ P ≤ 64 ∧ K ≤ 64) ∨ ((p < 0 ∨ k < 0) ∧ p ≤ 64 ∧ k ≤ 64)
theorem Dims.of {p k : Int} (hp : p ≤ 64) (hk : k ≤ 64) : Dims p k := by
  by_cases h : p < 0 ∨ k < 0
  · exact .inr ⟨h, hp, hk⟩
  · exact .inl ⟨p.toNat, k.toNat, by omega, by omega, by omega, by omega⟩
section
variable {W : World} {p k : Int} {ao so : Option Addr} {n cap hn hcp : Nat} {rs : List Rl} {l : List Sp}
set_option maxRecDepth 100000
set_option maxHeartbeats 3200000
/-- begin, and the box of the closure: how steps are put from there. -/
def Began (W : World) (p k : Int) (rs : List Rl) (kb : Nat) (wA : World) : Prop :=
  ∃ KI, KI [] (wA.alloc (.cells #[.pointer (some ⟨kb, 0, none⟩)] 48)) ∧ Pre W kb wA.heap.size p k rs KI
theorem begin_any (hR : RuleRow W ao rs) (hrs : rs.length = n) (hcap : n ≤ cap) (hd : Dims p k) :
    Calls Try.prog 19 #[.int .i64 p, .int .i64 k, .slice ao n cap] W fun e wA => ∃ kb, e = .returned (.pointer (some ⟨kb, 0, none⟩)) ∧ Hid (Began W p k rs kb wA) := by
  rcases hd with ⟨P, K, rfl, rfl, hP, hK⟩ | ⟨hd, hp, hk⟩
  · refine (begin_spec hR hrs hcap hP hK).mono ?_
    rintro e wA ⟨kb, mb, rfl, hA⟩
    have hA := hA.out
    refine ⟨kb, rfl, fun l w' => ∃ vs, KnE W.heap.size W w' kb P K ao n cap mb vs l rs ∧ Bx w' kb mb vs wA.heap.size (.cells #[.pointer (some ⟨kb, 0, none⟩)] 48), ⟨_, hA.quiet ((Keeps.refl _ _).alloc _), hA.new rfl _⟩, ?_⟩
    refine ⟨?_, ?_, ?_, ?_⟩
    · rintro l w1 s ⟨vs, h1, h2⟩
      refine (put_spec h1 s).mono ?_
      rintro e w2 ⟨rfl, vs2, h3, h4⟩
      exact ⟨rfl, vs2, h3.out, h2.to h4.out⟩
    · rintro l w1 w2 ⟨vs, h1, h2⟩ hk
      exact ⟨vs, h1.quiet hk, h2.to (KnTo.quiet hk)⟩
    · rintro l w1 ⟨vs, h1, h2⟩
      exact Keeps.of_below h1.base (Nat.le_refl _)
    · rintro l w1 ⟨vs, h1, h2⟩
      exact h2.at_
  · refine begin_dead.mono ?_
    rintro e wA ⟨kb, mb, rfl, hA, hkA⟩
    have hal : (wA.alloc (.cells #[.pointer (some ⟨kb, 0, none⟩)] 48)).heap[wA.heap.size]? = some (.cells #[.pointer (some ⟨kb, 0, none⟩)] 48) := (MapKept.heap_alloc wA _).1
    refine ⟨kb, rfl, fun l w' => l = [] ∧ KnMem w' kb p k ao n cap mb (.slice none 0 0) [] ∧ Keeps (fun _ => False) W w' ∧ w'.heap[wA.heap.size]? = some (.cells #[.pointer (some ⟨kb, 0, none⟩)] 48), ⟨rfl, hA.out.quiet ((Keeps.refl _ _).alloc _), hkA.out.trans ((Keeps.refl _ _).alloc _), hal⟩, ?_⟩
    have hq : ∀ l w1 w2, (l = ([] : List Sp) ∧ KnMem w1 kb p k ao n cap mb (.slice none 0 0) [] ∧ Keeps (fun _ => False) W w1 ∧ w1.heap[wA.heap.size]? = some (.cells #[.pointer (some ⟨kb, 0, none⟩)] 48)) → Keeps (fun _ => False) w1 w2 → (l = ([] : List Sp) ∧ KnMem w2 kb p k ao n cap mb (.slice none 0 0) [] ∧ Keeps (fun _ => False) W w2 ∧ w2.heap[wA.heap.size]? = some (.cells #[.pointer (some ⟨kb, 0, none⟩)] 48)) := by
      rintro l w1 w2 ⟨rfl, h1, h2, h3⟩ hk
      exact ⟨rfl, h1.quiet hk, h2.trans hk, (hk.block _ (lt_of_heap h3) (fun x => x)).trans h3⟩
    refine ⟨?_, hq, ?_, ?_⟩
    · rintro l w1 s h
      have h0 := h
      obtain ⟨rfl, h1, h2, h3⟩ := h
      refine (put_dead hd hp hk h1 hrs hcap (hR.keeps (h2.below (Nat.le_refl _) (fun _ _ x => x)) (fun _ _ _ h => h)) s).mono ?_
      rintro e w2 ⟨rfl, h4⟩
      refine ⟨by rw [mayB_dead hd], ?_⟩
      unfold putL
      rw [mayB_dead hd, if_neg (by decide)]
      exact hq _ _ _ h0 h4.out
    · rintro l w1 ⟨_, _, h2, _⟩
      exact h2
    · rintro l w1 ⟨_, _, _, h3⟩
      exact h3
/-- What a look whether steps are a proof comes to. -/
def ChkPost (W : World) (Pr : Prop) (e : Ending) (W' : World) : Prop := ∃ b, e = .returned (.bool b) ∧ Hid ((b = true ↔ Pr) ∧ Keeps (fun _ => False) W W')
theorem kcheck_spec (hR : RuleRow W ao rs) (hrs : rs.length = n) (hcap : n ≤ cap) (hd : Dims p k) (hS : StRow W so l) (hh : l.length = hn) (hhc : hn ≤ hcp) (hlen : hn ≤ 1000000) :
    Calls Try.prog 9 #[.int .i64 p, .int .i64 k, .slice ao n cap, .slice so hn hcp] W (ChkPost W (Chk p k rs l)) := by
  have HB := Lib.hid (begin_any (cap := cap) hR hrs hcap hd)
  have HCO : Hid (∀ kb wA, Began W p k rs kb wA → Calls Try.prog 20 #[.slice so hn hcp, .func (.func 21) #[] #[.pointer (some ⟨wA.heap.size, 0, none⟩)]] (wA.alloc (.cells #[.pointer (some ⟨kb, 0, none⟩)] 48)) (ConPost W (Chk p k rs l))) := fun kb wA hb => by
    obtain ⟨KI, h1, h2⟩ := hb
    exact kcontains_spec h2 h1 hS hh hhc hlen
  have HFIN : Hid (∀ b w', ((b = false ↔ Chk p k rs l) ∧ Keeps (fun _ => False) W w') → ChkPost W (Chk p k rs l) (.returned (.bool (!b))) w') := fun b w' h => ⟨_, rfl, by rw [← h.1]; cases b <;> simp, h.2⟩
  clear hR hS
  go_enter Try.func9, Try.ntmps9
  go_wp2_with (go_at_call 19; refine HB.out.mono ?_; rintro e wA ⟨kb, rfl, hA⟩)
  have HC2 := Lib.hid (HCO.out _ _ hA.out)
  clear HB HCO hA
  refine HC2.out.mono ?_
  rintro e wB ⟨b, rfl, hB⟩
  have HF := Lib.hid (HFIN.out b _ hB.out)
  clear HC2 HFIN hB
  go_wp2_with fail
  go_ret
  exact HF.out
/-- The last of steps is that one, and they are a proof. -/
def Prv (p k : Int) (rs : List Rl) (l : List Sp) (role who : Int) : Prop := ∃ s, l[l.length - 1]? = some s ∧ s.role = role ∧ s.who = who ∧ Chk p k rs l
theorem kproves_spec (hR : RuleRow W ao rs) (hrs : rs.length = n) (hcap : n ≤ cap) (hd : Dims p k) (hS : StRow W so l) (hh : l.length = hn) (hhc : hn ≤ hcp) (hlen : hn ≤ 1000000) (role who : Int) :
    Calls Try.prog 10 #[.int .i64 p, .int .i64 k, .slice ao n cap, .int .i64 role, .int .i64 who, .slice so hn hcp] W (ChkPost W (Prv p k rs l role who)) := by
  have HC := Lib.hid (kcheck_spec (cap := cap) hR hrs hcap hd hS hh hhc hlen)
  rcases Nat.eq_zero_or_pos hn with h0 | hpos
  · subst h0
    have HF : Hid (ChkPost W (Prv p k rs l role who) (.returned (.bool false)) W) := by
      refine ⟨false, rfl, ⟨fun h => (by cases h), ?_⟩, Keeps.refl _ _⟩
      rintro ⟨s, hs, _⟩
      rw [List.getElem?_eq_none (by omega)] at hs
      cases hs
    clear hR hS HC hh
    go_enter Try.func10, Try.ntmps10
    go_wp2_with fail
    go_ret
    exact HF.out
  · obtain ⟨q, rfl⟩ : ∃ q, hn = q + 1 := ⟨hn - 1, by omega⟩
    obtain ⟨sl, hsl⟩ : ∃ s, l[q]? = some s := ⟨_, List.getElem?_eq_getElem (by omega)⟩
    obtain ⟨g, o, rfl, hg, hc⟩ := hS (by omega)
    obtain ⟨c0, c1, c2, c3⟩ := hc q sl hsl
    have hq1 : l.length - 1 = q := by omega
    have HPR : Hid (∀ Pr, (Pr ↔ (sl.role = role ∧ sl.who = who ∧ Chk p k rs l)) → (Prv p k rs l role who ↔ Pr)) := fun Pr h => by
      rw [h]
      unfold Prv
      rw [hq1, hsl]
      constructor
      · rintro ⟨s, hs, h1⟩
        cases hs
        exact h1
      · intro h1
        exact ⟨sl, rfl, h1⟩
    have hwq : IntKind.i64.wrap ((q : Nat) : Int) = ((q : Nat) : Int) := IntWalk.i64_in _ (by omega)
    have hqI : (q : Int) < (q : Int) + 1 := by omega
    have hq0 : (0 : Int) < (q : Int) + 1 := by omega
    obtain ⟨rule, srole, swho, mid⟩ := sl
    simp only [] at c0 c1 c2 c3 HPR
    clear hR hS hc hsl hq1 hh
    by_cases e1 : srole = role
    · subst e1
      by_cases e2 : swho = who
      · subst e2
        have HFIN : Hid (∀ e w', ChkPost W (Chk p k rs l) e w' → ChkPost W (Prv p k rs l srole swho) e w') := fun e w' h => by
          obtain ⟨b, rfl, hb⟩ := h
          exact ⟨b, rfl, by rw [hb.out.1]; exact (HPR.out _ ⟨fun h => ⟨rfl, rfl, h⟩, fun h => h.2.2⟩).symm, hb.out.2⟩
        clear HPR
        go_enter Try.func10, Try.ntmps10
        go_wp2_with (go_at_call 9; refine HC.out.mono ?_; rintro e wA ⟨b, rfl, hA⟩)
        have HF := Lib.hid (HFIN.out _ _ ⟨b, rfl, hA⟩)
        clear HC HFIN hA
        go_ret
        exact HF.out
      · have e3 : (swho == who) = false := by simpa using e2
        have e4 : decide (swho = who) = false := decide_eq_false e2
        have HF : Hid (∀ w', Keeps (fun _ => False) W w' → ChkPost W (Prv p k rs l srole who) (.returned (.bool false)) w') := fun w' hk =>
          ⟨false, rfl, ⟨fun h => (by cases h), fun h => absurd ((HPR.out _ Iff.rfl).1 h).2.1 e2⟩, hk⟩
        clear HPR HC e2
        go_enter Try.func10, Try.ntmps10
        go_wp2_with fail
        go_ret
        exact HF.out _ (Keeps.refl _ _)
    · have e3 : (srole == role) = false := by simpa using e1
      have e4 : decide (srole = role) = false := decide_eq_false e1
      have HF : Hid (∀ w', Keeps (fun _ => False) W w' → ChkPost W (Prv p k rs l role who) (.returned (.bool false)) w') := fun w' hk =>
        ⟨false, rfl, ⟨fun h => (by cases h), fun h => absurd ((HPR.out _ Iff.rfl).1 h).1 e1⟩, hk⟩
      clear HPR HC e1
      go_enter Try.func10, Try.ntmps10
      go_wp2_with fail
      go_ret
      exact HF.out _ (Keeps.refl _ _)
end
end Go.Proofs.Ytahnedkdodjomaa
