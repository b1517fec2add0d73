/-
  The walk of the law NodeBudget.
-/
import Derived.Test.YtmljmpjpdgijlaaNodeTwo
import Derived.Deep.RegionWith
import Derived.Deep.RegionHeld3
set_option linter.unusedVariables false
set_option linter.unusedSimpArgs false
namespace Go.Proofs.Ytmljmpjpdgijlaa
open Go.ChangeShapes Go.WideShapes Go.ChangeAt Go.RowKit Go.Deep NodePlain

theorem IsRow.nodes {w : World} {ao : Option Addr} {n cap : Nat} {G : Nat → Nat → Value} (R : IsRow w [.int .i64, .int .i64, .int .i64] ao n cap G) :
    ∃ A : Nat → Nd, (∀ i, i < n → (-9223372036854775808 ≤ (A i).1 ∧ (A i).1 ≤ 9223372036854775807) ∧ (-9223372036854775808 ≤ (A i).2.1 ∧ (A i).2.1 ≤ 9223372036854775807) ∧ (-9223372036854775808 ≤ (A i).2.2 ∧ (A i).2.2 ≤ 9223372036854775807)) ∧ (0 < n → ∃ b off, ao = some ⟨b, off, none⟩ ∧ b < w.heap.size ∧ ∀ i, i < n → w.cell? ⟨b, off + i * 3, none⟩ = some (.int .i64 (A i).1) ∧
      w.cell? ⟨b, off + i * 3 + 1, none⟩ = some (.int .i64 (A i).2.1) ∧ w.cell? ⟨b, off + i * 3 + 2, none⟩ = some (.int .i64 (A i).2.2)) := by
  have key : ∀ i, i < n → ∃ p : Nd, G i 0 = .int .i64 p.1 ∧ G i 1 = .int .i64 p.2.1 ∧ G i 2 = .int .i64 p.2.2 ∧ (-9223372036854775808 ≤ p.1 ∧ p.1 ≤ 9223372036854775807) ∧ (-9223372036854775808 ≤ p.2.1 ∧ p.2.1 ≤ 9223372036854775807) ∧ (-9223372036854775808 ≤ p.2.2 ∧ p.2.2 ≤ 9223372036854775807) := fun i hi => by
    obtain ⟨z0, h0, w0⟩ := R.ok i 0 _ hi rfl
    obtain ⟨z1, h1, w1⟩ := R.ok i 1 _ hi rfl
    obtain ⟨z2, h2, w2⟩ := R.ok i 2 _ hi rfl
    exact ⟨(z0, z1, z2), h0, h1, h2, bounds_i64 w0, bounds_i64 w1, bounds_i64 w2⟩
  obtain ⟨f, hf⟩ := choose_lt key
  refine ⟨f, fun i hi => (hf i hi).2.2.2, fun h0 => ?_⟩
  obtain ⟨b, off, h1, h2, h3⟩ := R.at_ h0
  refine ⟨b, off, h1, h2, fun i hi => ?_⟩
  obtain ⟨g0, g1, g2, _⟩ := hf i hi
  rw [← g0, ← g1, ← g2]
  exact ⟨h3 i 0 hi (by decide), h3 i 1 hi (by decide), h3 i 2 hi (by decide)⟩

/-- What New answers, before it a block that stays. -/
def NewKeep (V B y : Int) (w W : World) (e : Ending) (w' : World) : Prop :=
  e = .returned (.pointer (some ⟨W.heap.size, 0, none⟩)) ∧ LiveTab W.heap.size W W.heap.size V B (fun _ => default) 0 false w' ∧ (w'.cell? ⟨w.heap.size, 1, none⟩ = some (.int .u64 y) ∧ w.heap.size < w'.heap.size)
theorem newKeep (vars budget V B y : Int) (hV : (vars ≤ 0 ∧ V = 0) ∨ (0 < vars ∧ vars ≤ 61 ∧ V = vars) ∨ (61 < vars ∧ V = 61)) (hB : (budget ≤ 0 ∧ B = 0) ∨ (0 < budget ∧ B = budget)) (w W : World) (hW : W.cell? ⟨w.heap.size, 1, none⟩ = some (.int .u64 y) ∧ w.heap.size < W.heap.size) :
    Calls Try.prog 30 #[.int .i64 vars, .int .i64 budget] W (NewKeep V B y w W) := by
  refine (newLive vars budget V B hV hB W).mono ?_
  rintro e w' ⟨rfl, t⟩
  have hb : Below W.heap.size W w' := by obtain ⟨_, _, _, _, _, h, _⟩ := t; exact h
  exact ⟨rfl, t, (hb.cell (p := ⟨w.heap.size, 1, none⟩) hW.2).trans hW.1, Nat.lt_of_lt_of_le hW.2 hb.size⟩
theorem LiveTab.from {w W w1 : World} {a : Nat} {V A : Int} {L : Nat → Nd} {n : Nat} {s : Bool} (h : LiveTab W.heap.size W a V A L n s w1) (hk : Keeps (fun _ => False) w W) : LiveTab w.heap.size w a V A L n s w1 := by
  obtain ⟨bp, M, vn, P, t, b, f⟩ := h
  exact ⟨bp, M, vn, P, t, (hk.below (Nat.le_refl _) (fun _ _ x => x)).trans ((Keeps.of_below (S := fun _ => False) b (Nat.le_refl _)).below hk.size (fun _ _ x => x)), fun k hk' => Nat.le_trans hk.size (f k hk')⟩

set_option maxRecDepth 100000 in
set_option maxHeartbeats 3200000 in
theorem nodeBudget_core (w : World) (v V : Int) (hV : (v ≤ 0 ∧ V = 0) ∨ (0 < v ∧ v ≤ 61 ∧ V = v) ∨ (61 < v ∧ V = 61)) (hv0 : -9223372036854775808 ≤ v) (hv1 : v ≤ 9223372036854775807) (x y : Int) (hx0 : 0 ≤ x) (hx1 : x ≤ 18446744073709551615) (hy0 : 0 ≤ y) (hy1 : y ≤ 18446744073709551615) (ao : Option Addr) (n cap : Nat) (G : Nat → Nat → Value) (R : IsRow w [.int .i64, .int .i64, .int .i64] ao n cap G) :
    Calls Try.prog 9 #[.int .i64 v, .agg #[.int .u64 x, .int .u64 y], .slice ao n cap] w fun e w' => e = .returned (.bool true) ∧ Below w.heap.size w w' := by
  have hcap := R.le
  have hmax := R.max
  unfold maxLen at hmax
  obtain ⟨Z, hZ, hA⟩ := R.nodes
  have HZ := Lib.hid hZ; have HA := Lib.hid hA
  clear R hZ hA
  have HVV := Lib.hid hV; clear hV
  obtain ⟨p, hp⟩ : ∃ p, x.tmod 60 = p := ⟨_, rfl⟩
  obtain ⟨q, hq⟩ : ∃ q, y.tmod 60 = q := ⟨_, rfl⟩
  have hp0 : 0 ≤ p ∧ p < 60 := by rw [← hp, Int.tmod_eq_emod_of_nonneg hx0]; omega
  have hq0 : 0 ≤ q ∧ q < 60 := by rw [← hq, Int.tmod_eq_emod_of_nonneg hy0]; omega
  obtain ⟨hp0, hp1⟩ := hp0
  obtain ⟨hq0, hq1⟩ := hq0
  go_enter Try.func9, Try.ntmps9
  go_upto_region 1 with fail
  have cb1 : (w.alloc (.cells #[.int .u64 x, .int .u64 y] 71)).cell? ⟨w.heap.size, 1, none⟩ = some (.int .u64 y) := by simp
  go_cut [2] (fun s wx => ∃ m : Nat, s = .slice ao m cap ∧ m ≤ n ∧ m ≤ 60 ∧ wx = w.alloc (.cells #[.int .u64 x, .int .u64 y] 71))
  case first =>
    go_wp2
    all_goals (go_meet; first | exact ⟨n, rfl, by omega, by omega, rfl⟩ | exact ⟨60, rfl, by omega, by omega, rfl⟩)
  case rest =>
    obtain ⟨m, rfl, hmn, hm60, rfl⟩ := hcut
    have N1 : Hid (∀ b : Int, 0 ≤ b → b ≤ 1000 → ∀ W, (W.cell? ⟨w.heap.size, 1, none⟩ = some (.int .u64 y) ∧ w.heap.size < W.heap.size) → Calls Try.prog 30 #[.int .i64 v, .int .i64 b] W (NewKeep V b y w W)) := fun b h0 h1 W hW => newKeep v b V b y HVV.out (by omega) w W hW
    have kb : Keeps (fun _ => False) w (w.alloc (.cells #[.int .u64 x, .int .u64 y] 71)) := (Keeps.refl _ _).alloc _
    have hzb : w.heap.size < (w.alloc (.cells #[.int .u64 x, .int .u64 y] 71)).heap.size := by simp
    have HKB := Lib.hid kb
    clear kb hcap hmax hv0 hv1
    go_upto_region 3 with fail
    have hw : IntKind.i64.wrap (p + q) = p + q := IntWalk.i64_in _ (by omega)
    generalize w.alloc (.cells #[.int .u64 x, .int .u64 y] 71) = wb at cb1 hzb HKB ⊢
    go_cut [7, 8, 9] (fun s a b wx => s = .int .i64 p ∧ ∃ a' b' yy, a = .pointer (some ⟨a', 0, none⟩) ∧ b = .pointer (some ⟨b', 0, none⟩) ∧ yy ≤ wx.heap.size ∧ Tab2 w.heap.size yy w wx a' V p (fun _ => default) 0 false b' V (p + q) (fun _ => default) 0 false)
    case first =>
      clear HA HZ hmn hm60 hx0 hx1 hp HVV
      have hwq : IntKind.i64.wrap q = q := IntWalk.i64_in _ (by omega)
      go_region_held3 (fun w' => w'.cell? ⟨w.heap.size, 1, none⟩ = some (.int .u64 y) ∧ w.heap.size < w'.heap.size) (first | exact ⟨cb1, hzb⟩ | exact hc) ((first | (go_at_call 30; refine (N1.out _ (by omega) (by omega) _ (by assumption)).mono ?_; rintro e w' ⟨rfl, t, hc⟩)))
      rename_i wa ta _ _
      go_wp2_with fail
      go_meet
      exact ⟨rfl, wb.heap.size, wa.heap.size, w'.heap.size, rfl, rfl, Nat.le_refl _, Tab2.of_new (Nat.le_refl _) (ta.from HKB.out.drew) w' t⟩
    case rest =>
      obtain ⟨rfl, a', b', yy, rfl, rfl, hyy, htab⟩ := hcut
      have HT := Lib.hid (htab.up hyy)
      clear htab hyy hw hq hp hzb HKB cb1 N1
      have hp60 : p ≤ 60 := by omega
      go_wp2_with fail
      go_loopg [44] m (fun g s wr => ∃ k : Nat, k ≤ m ∧ g = m - k ∧ s = .int .i64 k ∧ ∃ (L : Nat → Nd) (c : Nat), c ≤ k ∧ Hid ((c : Int) ≤ p) ∧ Hid (Tab2 w.heap.size wr.heap.size w wr a' V p L c false b' V (p + q) L c false))
      case atStart => exact ⟨0, Nat.zero_le _, rfl, rfl, fun _ => default, 0, Nat.le_refl _, by show (0 : Int) ≤ p; omega, HT.out⟩
      case round =>
        obtain ⟨k, hk, rfl, rfl, L, c, hck, hcp, ht⟩ := hrel
        by_cases hlt : k < m
        · obtain ⟨bl, off, rfl, hbl, hcells⟩ := HA.out (by omega)
          obtain ⟨r0, r1, r2⟩ := hcells k (by omega)
          obtain ⟨z0, z1, z2⟩ := HZ.out k (by omega)
          have hbb := ht.out.base
          rw [← hbb.cell (p := ⟨bl, _, none⟩) hbl] at r0 r1 r2
          obtain ⟨⟨v0, v1, v2⟩, hLi⟩ : ∃ p, p = Z k := ⟨_, rfl⟩
          rw [← hLi] at r0 r1 r2 z0 z1 z2
          simp only [] at r0 r1 r2 z0 z1 z2
          obtain ⟨z00, z01⟩ := z0; obtain ⟨z10, z11⟩ := z1; obtain ⟨z20, z21⟩ := z2
          clear hcells hLi hbb
          have HT1 := Lib.hid (ht.out.keeps (Nat.le_refl _) ((Keeps.refl (fun _ => False) wr).alloc (.cells #[.int .i64 v0, .int .i64 v1, .int .i64 v2] 58)))
          clear ht
          go_wp2_with fail
          refine (Tab2.make HT1.out (Nat.le_refl _) (by simp) (by omega) v0 v1 v2 z00 z01 z10 z11 z20 z21).mono ?_
          rintro e w1 ⟨rfl, t1, k1⟩
          have hz1 : wr.heap.size < w1.heap.size := by have := k1.size; simp at this; omega
          have q0 : w1.cell? ⟨wr.heap.size, 0, none⟩ = some (.int .i64 v0) := (k1.cell (p := ⟨wr.heap.size, 0, none⟩) (by simp) (by simp)).trans (by simp)
          have q1 : w1.cell? ⟨wr.heap.size, 1, none⟩ = some (.int .i64 v1) := (k1.cell (p := ⟨wr.heap.size, 1, none⟩) (by simp) (by simp)).trans (by simp)
          have q2 : w1.cell? ⟨wr.heap.size, 2, none⟩ = some (.int .i64 v2) := (k1.cell (p := ⟨wr.heap.size, 2, none⟩) (by simp) (by simp)).trans (by simp)
          have T1 := Lib.hid t1
          clear t1 k1 HT1 r0 r1 r2
          have HL := Lib.hid (res_len (v := v0) (lo := v1) (hi := v2) (L := L) (V := V) hcp.out)
          have HS := Lib.hid (fun h => res_spent (V := V) (A := p) (L := L) (n := c) (v := v0) (lo := v1) (hi := v2) h)
          have HB := Lib.hid (fun h => res_budget (V := V) (A := p) (B := p + q) (L := L) (n := c) (v := v0) (lo := v1) (hi := v2) (by omega) h)
          generalize hr : resN V p L c v0 v1 v2 = r at T1 HL HS HB ⊢
          have Hr := Lib.hid hr
          clear hr
          go_wp2_with fail
          refine (Tab2.make T1.out.symm (Nat.le_refl _) (Nat.le_refl _) (by omega) v0 v1 v2 z00 z01 z10 z11 z20 z21).mono ?_
          rintro e w2 ⟨rfl, t2, k2⟩
          have T2 := Lib.hid t2.symm
          clear t2 k2 T1 q0 q1 q2
          have HL2 := Lib.hid (res_len (v := v0) (lo := v1) (hi := v2) (L := L) (V := V) (A := p + q) (n := c) (by have := hcp.out; omega))
          cases hs : r.out false with
          | true =>
            generalize resN V (p + q) L c v0 v1 v2 = r2 at T2 HL2 ⊢
            obtain ⟨hs1, hs2, hs3⟩ := HS.out hs
            have g1 : ((Res.len c r : Nat) : Int) = p := by have := hcp.out; omega
            have g2 : p ≤ ((Res.len c r2 : Nat) : Int) := by have := HL2.out; omega
            have g3 : Res.len c r ≤ 100 := by omega
            have g4 : Res.len c r2 ≤ 100 := by have := HL2.out; omega
            rw [hs] at T2
            rw [hs3]
            generalize Res.len c r = l1 at *
            generalize Res.len c r2 = l2 at *
            subst g1
            clear hs hs1 hs2 hs3 HL HL2 HS HB Hr
            go_wp2_with fail
            refine (Tab2.spent T2.out).mono ?_
            rintro e w3 ⟨rfl, rfl⟩
            go_wp2_with fail
            refine (Tab2.len T2.out (by omega)).mono ?_
            rintro e w3 ⟨rfl, rfl⟩
            go_wp2_with fail
            refine (Tab2.len T2.out.symm (by omega)).mono ?_
            rintro e w3 ⟨rfl, rfl⟩
            go_wp2_with fail
            refine (lives_any _).mono ?_
            rintro e w3 ⟨rfl, hb⟩
            go_wp2
            go_ret
            exact ⟨rfl, T2.out.base.trans (hb.mono (T2.out.size (Nat.le_refl _)))⟩
          | false =>
            have hr2 := HB.out (fun r' h' => by rw [← h']; exact hs)
            rw [hr2] at T2 ⊢
            rw [hs] at T2
            have g1 : ((Res.len c r : Nat) : Int) ≤ p := HL.out.1
            have g3 : Res.len c r ≤ k + 1 := by have := HL.out; omega
            have g5 : Res.len c r ≤ 100 := by omega
            generalize Res.nodes L c (v0, v1, v2) r = L1 at *
            generalize Res.len c r = l1 at *
            clear hs hr2 HL HL2 HS HB Hr
            go_wp2_with fail
            refine (Tab2.spent T2.out).mono ?_
            rintro e w3 ⟨rfl, rfl⟩
            go_wp2_with fail
            refine (Tab2.len T2.out (by omega)).mono ?_
            rintro e w3 ⟨rfl, rfl⟩
            go_wp2_with fail
            refine (Tab2.len T2.out.symm (by omega)).mono ?_
            rintro e w3 ⟨rfl, rfl⟩
            go_wp2_with fail
            refine (Tab2.len T2.out (by omega)).mono ?_
            rintro e w3 ⟨rfl, rfl⟩
            go_wp2_with fail
            go_roundg (m - (k + 1))
            case measure => omega
            case rel => exact ⟨k + 1, by omega, rfl, by go_num, L1, l1, g3, g1, T2.out⟩
        · go_wp2_with fail
          refine (lives_any _).mono ?_
          rintro e w2 ⟨rfl, hb⟩
          go_wp2
          go_ret
          exact ⟨rfl, ht.out.base.trans (hb.mono (ht.out.size (Nat.le_refl _)))⟩

/-- Two numbers by value. -/
theorem two_of_fits {c : Array Value} (hs : c.size = 2) (hf : Fits [.int .u64, .int .u64] 0 c.toList) : ∃ x y : Int, c = #[.int .u64 x, .int .u64 y] ∧ (0 ≤ x ∧ x ≤ 18446744073709551615) ∧ (0 ≤ y ∧ y ≤ 18446744073709551615) := by
  obtain ⟨l⟩ := c
  match l, hs with
  | [a, b], _ =>
    obtain ⟨v0, h0, x, rfl, hx⟩ := hf 0 _ rfl
    obtain ⟨v1, h1, y, rfl, hy⟩ := hf 1 _ rfl
    simp at h0 h1
    subst h0; subst h1
    exact ⟨x, y, rfl, bounds_u64 hx, bounds_u64 hy⟩
theorem int_cases (v : Int) : ∃ V : Int, (v ≤ 0 ∧ V = 0) ∨ (0 < v ∧ v ≤ 61 ∧ V = v) ∨ (61 < v ∧ V = 61) := by
  by_cases h0 : v ≤ 0
  · exact ⟨0, .inl ⟨h0, rfl⟩⟩
  · by_cases h1 : v ≤ 61
    · exact ⟨v, .inr (.inl ⟨by omega, h1, rfl⟩)⟩
    · exact ⟨61, .inr (.inr ⟨by omega, rfl⟩)⟩
theorem nodeBudget_walk (w : World) (v : Int) (hv0 : -9223372036854775808 ≤ v) (hv1 : v ≤ 9223372036854775807) (c : Array Value) (hs : c.size = 2) (hf : Fits [.int .u64, .int .u64] 0 c.toList) (ao : Option Addr) (n cap : Nat) (G : Nat → Nat → Value) (R : IsRow w [.int .i64, .int .i64, .int .i64] ao n cap G) :
    Calls Try.prog 9 #[.int .i64 v, .agg c, .slice ao n cap] w fun e w' => e = .returned (.bool true) ∧ Below w.heap.size w w' := by
  obtain ⟨x, y, rfl, hx, hy⟩ := two_of_fits hs hf
  obtain ⟨V, hV⟩ := int_cases v
  exact nodeBudget_core w v V hV hv0 hv1 x y hx.1 hx.2 hy.1 hy.2 ao n cap G R
end Go.Proofs.Ytmljmpjpdgijlaa
