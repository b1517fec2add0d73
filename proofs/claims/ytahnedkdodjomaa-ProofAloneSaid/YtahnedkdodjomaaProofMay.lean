/-
  Is a step right behind those that are known?
-/
import Derived.Test.YtahnedkdodjomaaProofNeedsAll
set_option linter.unusedVariables false
set_option linter.unusedSimpArgs false
set_option linter.unnecessarySimpa false
namespace Go.Proofs.Ytahnedkdodjomaa
open Go.ChangeShapes Go.WideShapes Go.ChangeAt Go.RowKit Go.Deep SetPlain
theorem i64_wrap (x : Int) : I64 (IntKind.i64.wrap x) := by
  unfold I64
  have e1 : (2 : Int) ^ 64 = 18446744073709551616 := by decide
  have e2 : (2 : Int) ^ (64 - 1) = 9223372036854775808 := by decide
  simp only [IntKind.wrap, IntKind.bits, IntKind.signed, Bool.true_and, decide_eq_true_eq, e1, e2]
  constructor <;> split <;> omega
theorem role_i64 {p k i : Int} (hp : p ≤ 64) (hk : k ≤ 64) (h0 : 0 ≤ p) (h1 : 0 ≤ k) (h : roleB p k i = true) : 0 ≤ i ∧ i < 4096 := by
  unfold roleB at h
  have := Int.mul_le_mul hp hk h1 (by decide : (0 : Int) ≤ 64)
  have := of_decide_eq_true h
  omega
theorem ruleAt_right {p k : Int} {rs : List Rl} {i : Int} (h : (ruleAt p k rs i).2 = true) : rightB p k (ruleAt p k rs i).1 = true := by
  unfold ruleAt at h ⊢
  split at h
  · rw [if_pos (by assumption)]; exact h
  · cases h
theorem right_i64 {p k : Int} (hp : p ≤ 64) (hk : k ≤ 64) {r : Rl} (h : rightB p k r = true) : I64 r.head ∧ (r.kind = 2 ∨ r.kind = 3 ∨ r.kind = 4 → I64 r.a) ∧ (r.kind = 4 → I64 r.b) := by
  unfold rightB at h
  rw [Bool.and_eq_true, Bool.and_eq_true] at h
  obtain ⟨h0, h1, h2⟩ := h
  have h0 := of_decide_eq_true h0
  have hr : ∀ i, roleB p k i = true → I64 i := fun i hi => by have := role_i64 hp hk h0.1 h0.2.1 hi; unfold I64; omega
  refine ⟨hr _ h1, fun hk => ?_, fun hk => ?_⟩
  · rcases hk with e | e | e <;> simp [e] at h2 <;> exact hr _ (by first | exact h2.2 | exact h2.2.1 | exact h2.2.2)
  · simp [hk] at h2
    exact hr _ h2.1
theorem needs_ok {p k : Int} (hp : p ≤ 64) (hk : k ≤ 64) {rs : List Rl} {s : Sp} (h : (needsL p k rs s).2 = true) :
    I64 s.role ∧ I64 s.who ∧ ∀ f, f ∈ (needsL p k rs s).1 → I64 f.1 ∧ I64 f.2 := by
  have hR := @ruleAt_right p k rs s.rule
  have hK := @ruleAt_kind p k rs s.rule
  unfold needsL at h ⊢
  generalize ruleAt p k rs s.rule = x at h hR hK ⊢
  obtain ⟨r, ok⟩ := x
  unfold needsR at h ⊢
  split at h
  · cases h
  rename_i hno
  rw [if_neg hno]
  have hok : ok = true := by cases ok with
    | true => rfl
    | false => exact absurd (.inl rfl) hno
  obtain ⟨hh, ha, hb⟩ := right_i64 hp hk (hR hok)
  have hk' := hK hok
  have e1 : r.head = s.role := by
    rcases Int.decEq r.head s.role with h | h
    · exact absurd (.inr (.inl h)) hno
    · exact h
  have e2 : ¬ s.who < 0 := fun h => hno (.inr (.inr (.inl h)))
  have e3 : ¬ p ≤ s.who := fun h => hno (.inr (.inr (.inr (.inl h))))
  have hw : I64 s.who := by unfold I64; omega
  refine ⟨e1 ▸ hh, hw, ?_⟩
  intro f hf
  simp only [] at hk'
  rcases hk' with e | e | e | e
  · simp [e] at hf
  · simp [e] at hf; subst hf; exact ⟨ha (.inl e), hw⟩
  · simp [e] at hf h
    rcases hf with rfl | rfl
    · exact ⟨ha (.inr (.inl e)), by unfold I64; omega⟩
    · exact ⟨i64_wrap _, hw⟩
  · simp [e] at hf
    rcases hf with rfl | rfl
    · exact ⟨ha (.inr (.inr e)), hw⟩
    · exact ⟨hb e, hw⟩
theorem needs_len {p k : Int} {rs : List Rl} {s : Sp} : (needsL p k rs s).1.length ≤ 2 := by
  unfold needsL needsR
  split
  · exact Nat.zero_le _
  split
  · exact Nat.zero_le _
  split
  · exact Nat.le_succ _
  split
  · exact Nat.le_refl _
  · exact Nat.le_refl _
def mayB (p k : Int) (rs : List Rl) (l : List Sp) (s : Sp) : Bool := ((needsL p k rs s).2 && (needsL p k rs s).1.all fun f => (atF l f.1 f.2).isSome) && !(atF l s.role s.who).isSome
set_option maxRecDepth 100000
set_option maxHeartbeats 1600000
theorem may_spec {W : World} {kb : Nat} {p k : Int} (hp : p ≤ 64) (hk : k ≤ 64) {ao : Option Addr} {n cap mb : Nat} {vs : Value} {l : List Sp} (h : KnMem W kb p k ao n cap mb vs l) {rs : List Rl} (hrs : rs.length = n) (hcap : n ≤ cap) (hR : RuleRow W ao rs) (s : Sp) :
    Calls Try.prog 31 #[.pointer (some ⟨kb, 0, none⟩), .agg #[.int .i64 s.rule, .int .i64 s.role, .int .i64 s.who, .int .i64 s.mid]] W (fun e W' => e = .returned (.bool (mayB p k rs l s)) ∧ Below W.heap.size W W') := by
  have HOK := Lib.hid (@needs_ok p k hp hk rs s)
  have hlen := @needs_len p k rs s
  have hal : (W.alloc (SpObj s)).heap[W.heap.size]? = some (SpObj s) := (MapKept.heap_alloc W _).1
  have hk0 : Keeps (fun _ => False) W (W.alloc (SpObj s)) := (Keeps.refl _ _).alloc _
  have HNS := Lib.hid (needs_spec hp hk (h.quiet hk0) hrs hcap (hR.keeps (hk0.below (Nat.le_refl _) (fun _ _ x => x)) (fun _ _ _ h => h)) s)
  have hmb : Hid (∀ x, needsL p k rs s = x → mayB p k rs l s = ((x.2 && x.1.all fun f => (atF l f.1 f.2).isSome) && !(atF l s.role s.who).isSome)) := fun x hx => by unfold mayB; rw [hx]
  have HF : Hid (∀ wA, Below (W.alloc (SpObj s)).heap.size (W.alloc (SpObj s)) wA → KnMem wA kb p k ao n cap mb vs l ∧ wA.cell? ⟨W.heap.size, 1, none⟩ = some (.int .i64 s.role) ∧ wA.cell? ⟨W.heap.size, 2, none⟩ = some (.int .i64 s.who) ∧ W.heap.size < wA.heap.size ∧ Below W.heap.size W wA) := fun wA hb => by
    have hk := Keeps.of_below (S := fun _ => False) hb (Nat.le_refl _)
    have hz : wA.heap[W.heap.size]? = some (SpObj s) := (hk.block _ (lt_of_heap hal) (fun x => x)).trans hal
    refine ⟨h.quiet (hk0.trans hk), ?_, ?_, lt_of_heap hz, (hk0.trans hk).below (Nat.le_refl _) (fun _ _ x => x)⟩ <;> (unfold SpObj at hz; rw [cell_of_heap hz]; rfl)
  obtain ⟨rule, role, who, mid⟩ := s
  obtain ⟨⟨fl, fo⟩, hx⟩ : ∃ x, needsL p k rs ⟨rule, role, who, mid⟩ = x := ⟨_, rfl⟩
  have hmb := hmb.out _ hx
  rw [hx] at HNS HOK hlen
  simp only [] at hmb HOK hlen
  generalize mayB p k rs l ⟨rule, role, who, mid⟩ = res at hmb ⊢
  have HRES := Lib.hid hmb
  clear h hR hal hk0 hmb hx
  go_enter Try.func31, Try.ntmps31
  go_wp2_with (go_at_call 25; refine HNS.out.mono ?_; rintro e wA ⟨lo, lc, rfl, hlc, hrow, hbA⟩)
  have HI0 : Hid (fo = (fo && (fl.take 0).all fun f => (atF l f.1 f.2).isSome)) := by cases fo <;> rfl
  have HB0 : Hid (Below (W.alloc (SpObj ⟨rule, role, who, mid⟩)).heap.size (W.alloc (SpObj ⟨rule, role, who, mid⟩)) wA ∧ FcRow wA lo fl) := ⟨hbA, hrow.out⟩
  clear hbA hrow HNS
  go_loopg [6, 17] fl.length (fun g s t wy => ∃ (j : Nat) (ok : Bool), j ≤ fl.length ∧ g = fl.length - j ∧ s = .bool ok ∧ t = .int .i64 j ∧ Hid (ok = (fo && (fl.take j).all (fun f => (atF l f.1 f.2).isSome))) ∧ Hid (Below (W.alloc (SpObj ⟨rule, role, who, mid⟩)).heap.size (W.alloc (SpObj ⟨rule, role, who, mid⟩)) wy ∧ FcRow wy lo fl))
  case atStart => exact ⟨0, fo, Nat.zero_le _, rfl, rfl, rfl, HI0.out, HB0.out⟩
  case round =>
    clear HI0 HB0
    obtain ⟨j, ok, hj, rfl, rfl, rfl, HI, HB⟩ := hrel
    by_cases hlt : j < fl.length
    · obtain ⟨f, hf⟩ : ∃ f, fl[j]? = some f := ⟨_, List.getElem?_eq_getElem hlt⟩
      obtain ⟨hbl, hfr⟩ := HB.out
      obtain ⟨bb, rfl, hbb, hc⟩ := hfr (by omega)
      obtain ⟨c0, c1⟩ := hc j f hf
      have hjI : (j : Int) < (fl.length : Int) := by omega
      have HN : Hid (∀ x, x = (ok && (atF l f.1 f.2).isSome) → x = (fo && (fl.take (j + 1)).all (fun f => (atF l f.1 f.2).isSome))) := fun x hx => by
        rw [hx, HI.out, List.take_add_one, hf]
        simp [Bool.and_assoc]
      have HFI : Hid (ok = true → I64 f.1 ∧ I64 f.2) := fun h => by
        have h2 := HI.out
        rw [h] at h2
        have h3 : fo = true := by cases fo with
          | true => rfl
          | false => cases h2
        exact (HOK.out h3).2.2 f (List.mem_of_getElem? hf)
      have HB1 : Hid (∀ w', Below wr.heap.size wr w' → Below (W.alloc (SpObj ⟨rule, role, who, mid⟩)).heap.size (W.alloc (SpObj ⟨rule, role, who, mid⟩)) w' ∧ FcRow w' (some ⟨bb, 0, none⟩) fl) := fun w' hb => ⟨hbl.trans (hb.mono hbl.size), hfr.keeps (Keeps.of_below hb (Nat.le_refl _))⟩
      have HKN : Hid (∀ w', Below wr.heap.size wr w' → KnMem w' kb p k ao n cap mb vs l) := fun w' hb => (HF.out w' (hbl.trans (hb.mono hbl.size))).1
      obtain ⟨fa, fb⟩ := f
      simp only [Nat.zero_add] at c0 c1 HN HFI
      clear hbl hfr hc hf HI HB
      cases ok with
      | false =>
        clear HKN HFI
        go_wp2_with (fail)
        go_roundg (fl.length - (j + 1))
        case measure => omega
        case rel => exact ⟨j + 1, false, by omega, rfl, rfl, by go_num, HN.out _ rfl, HB1.out _ (((Keeps.refl (fun _ => False) _).alloc _).below (Nat.le_refl _) (fun _ _ x => x))⟩
      | true =>
        obtain ⟨ia, ib⟩ := HFI.out rfl
        have HC : Hid (∀ w', Below wr.heap.size wr w' → Calls Try.prog 45 #[.pointer (some ⟨kb, 0, none⟩), .int .i64 fa, .int .i64 fb] w' fun e W' => e = .returned (.bool (atF l fa fb).isSome) ∧ Below wr.heap.size wr W') := fun w' hb => (khas_spec (HKN.out w' hb) ia ib).mono fun e W' h => ⟨h.1, hb.trans (h.2.mono hb.size)⟩
        clear ia ib HFI HKN
        obtain ⟨v, hv⟩ : ∃ v, (atF l fa fb).isSome = v := ⟨_, rfl⟩
        rw [hv] at HN HC
        go_wp2_with (go_at_call 45; refine (HC.out _ (((Keeps.refl (fun _ => False) _).alloc _).below (Nat.le_refl _) (fun _ _ x => x))).mono ?_; rintro e wC ⟨rfl, hbC⟩)
        go_roundg (fl.length - (j + 1))
        case measure => omega
        case rel => exact ⟨j + 1, v, by omega, rfl, rfl, by go_num, HN.out _ rfl, HB1.out _ hbC⟩
    · obtain rfl : j = fl.length := by omega
      have hjI : ¬ (fl.length : Int) < (fl.length : Int) := by omega
      obtain ⟨hbl, _⟩ := HB.out
      obtain ⟨hkn, r1, r2, hz, hbW⟩ := HF.out _ hbl
      have HI2 := HI.out
      rw [List.take_length] at HI2
      have HE : Hid (∀ x, x = (ok && !(atF l role who).isSome) → Ending.returned (.bool x) = Ending.returned (.bool res)) := fun x hx => by rw [hx, HRES.out, HI2]
      have HFI : Hid (ok = true → I64 role ∧ I64 who) := fun h => by
        rw [h] at HI2
        have h3 : fo = true := by cases fo with
          | true => rfl
          | false => cases HI2
        exact ⟨(HOK.out h3).1, (HOK.out h3).2.1⟩
      clear HI HI2 HB hbl HOK HF hmb
      cases ok with
      | false =>
        clear hkn
        go_wp2_with (fail)
        go_ret
        exact ⟨HE.out _ rfl, hbW⟩
      | true =>
        obtain ⟨ia, ib⟩ := HFI.out rfl
        have HC := Lib.hid (khas_spec hkn ia ib)
        clear hkn
        obtain ⟨v, hv⟩ : ∃ v, (atF l role who).isSome = v := ⟨_, rfl⟩
        rw [hv] at HC HE
        have HBW := Lib.hid hbW
        go_wp2_with (go_at_call 45; refine HC.out.mono ?_; rintro e wC ⟨rfl, hbC⟩)
        go_ret
        exact ⟨HE.out _ rfl, HBW.out.trans (hbC.mono HBW.out.size)⟩
end Go.Proofs.Ytahnedkdodjomaa
