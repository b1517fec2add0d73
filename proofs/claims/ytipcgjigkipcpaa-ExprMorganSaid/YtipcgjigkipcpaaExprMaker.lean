/-
  A maker behind so many steps of formulas.
-/
import Derived.Test.YtipcgjigkipcpaaExprLives
set_option linter.unusedVariables false
set_option linter.unusedSimpArgs false
set_option linter.unnecessarySimpa false
namespace Go.Proofs.Ytipcgjigkipcpaa
open Go.ChangeShapes Go.WideShapes Go.ChangeAt Go.RowKit Go.Deep NodePlain
structure BK (w W : World) (db k : Nat) (st : St) (u : Nat) (c : Int) (F : Nat → Prop) : Prop where
  bd : Bd W db k 1048576 st c F
  fine : Fine k 1048576 (2 * u) st
  n : st.n ≤ u * 512
  c0 : 0 ≤ c
  c1 : c ≤ ((2 * u : Nat) : Int)
  kp : Keeps (fun x => w.heap.size ≤ x) w W
  fw : ∀ x, F x → w.heap.size ≤ x
section
variable {w W W' : World} {db k : Nat} {st : St} {u : Nat} {c : Int} {F : Nat → Prop}
theorem BK.quiet (h : BK w W db k st u c F) (hk : Keeps (fun _ => False) W W') : BK w W' db k st u c F :=
  ⟨h.bd.quiet hk, h.fine, h.n, h.c0, h.c1, h.kp.trans_new hk (fun _ _ x => x.elim), h.fw⟩
theorem BK.below (h : BK w W db k st u c F) : Below w.heap.size w W := h.kp.below (Nat.le_refl _) (fun x hx hs => by omega)
theorem bk_new {w1 : World} (hk : Keeps (fun _ => False) w w1) (hb : Bd W db k 1048576 st0 0 F) (h1 : Keeps (fun _ => False) w1 W) (h2 : ∀ x, F x → w1.heap.size ≤ x) : BK w W db k st0 0 0 F :=
  ⟨hb, fine0 (by omega), Nat.le_refl _, Int.le_refl _, by omega, (hk.trans h1).mono (fun _ _ x => x.elim), fun x hx => Nat.le_trans hk.size (h2 x hx)⟩
set_option maxRecDepth 100000
set_option maxHeartbeats 1600000
theorem BK.build (h : BK w W db k st u c F) (hk8 : k ≤ 8) {ao : Option Addr} {n cap : Nat} {l : List Sp} (hl : l.length = n) (hcap : n ≤ cap) (hn : u + n ≤ 1500) (hr : SpRow W ao l) (hra : ∀ b off, ao = some ⟨b, off, none⟩ → ¬ F b) (hok : rightE k l = true) :
    Calls Try.prog 35 #[.pointer (some ⟨db, 0, none⟩), .slice ao n cap] W fun e W' => ∃ x st' c' F', e = .returned (.tuple #[.int .i64 x, .bool true]) ∧ Hid (BK w W' db k st' (u + n) c' F' ∧ Ext st.L st.n st'.L st'.n ∧ isN st'.n x = true ∧ (∀ β, ev st'.L β x = atE β l) ∧ Mv W W' F F') := by
  have hp : 2 ^ ((k : Int)).toNat ≤ 256 := pow_V (by omega)
  have hm : n * (2 * 2 ^ ((k : Int)).toNat) ≤ n * 512 := Nat.mul_le_mul (Nat.le_refl _) (by omega)
  have hmm : (u + n) * 512 = u * 512 + n * 512 := Nat.add_mul _ _ _
  have hmx : (u + n) * 512 ≤ 1500 * 512 := Nat.mul_le_mul hn (Nat.le_refl _)
  have h0 := h.n
  have hc1 := h.c1
  have hroom : ((st.n + n * (2 * 2 ^ ((k : Int)).toNat) : Nat) : Int) < 1048576 := by omega
  obtain ⟨f1, f2, f3, f4, f5⟩ := bldN_ev (by omega) (by omega) h.fine hok (by rw [hl]; exact hroom)
  rw [hl] at f1 f3
  refine (build_spec h.bd (by omega) (by omega) h.fine hl hcap hr hra hok (by omega) h.c0 (by omega) hroom).mono ?_
  rintro e W' ⟨rfl, hx⟩
  obtain ⟨c', F', hb, hmv, hc0, hc2⟩ := hx.out
  rw [hl] at hc2
  have hcc := h.c0
  exact ⟨_, _, c', F', rfl, ⟨hb, f1.mono (by omega), by omega, by omega, by omega, h.kp.trans_new hmv.keeps (fun i _ hx => h.fw i hx), fun x hx => (hmv.fp x hx).elim (h.fw x) (fun hx => Nat.le_trans h.kp.size hx)⟩, f4, f2, f5, hmv⟩
end
end Go.Proofs.Ytipcgjigkipcpaa
