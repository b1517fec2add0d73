/-
 The document's order of statements.
-/
import Derived.Test.YtcdfpnlaklaafaaGreatStmOrd
set_option linter.unusedVariables false
set_option linter.unusedSimpArgs false
set_option linter.unnecessarySimpa false
namespace Go.Proofs.YtcdfpnlaklaafaaGreat
open Go.ChangeShapes Go.WideShapes Go.ChangeAt Go.RowKit Go.Deep
/-- What an order of pairs comes to, by whether the first are the same. -/
theorem lex_ne {α β : Type} {p : α → α → Prop} {q : β → β → Prop} [DecidableRel p] [DecidableRel q] [DecidableEq α] {a b : α × β} (h : a.1 ≠ b.1) : decide (lexO p q a b) = decide (p a.1 b.1) :=
 decide_eq_decide.2 ⟨fun k => k.elim id (fun k => absurd k.1 h), .inl⟩
theorem lex_eq {α β : Type} {p : α → α → Prop} {q : β → β → Prop} [DecidableRel p] [DecidableRel q] [DecidableEq α] (hp : LO p) {a b : α × β} (h : a.1 = b.1) : decide (lexO p q a b) = decide (q a.2 b.2) :=
 decide_eq_decide.2 ⟨fun k => k.elim (fun k => absurd k (by rw [h]; exact hp.irrefl _)) (fun k => k.2), fun k => .inr ⟨h, k⟩⟩
theorem stm_e (a b : Stm) (h : a.1 = b.1) : decide (stmLt a b) = decide (st2 a.2 b.2) := lex_eq rolO h
theorem st2_e (a b : Int × Str × Rol × Rol × Str) (h : a.1 = b.1) : decide (st2 a b) = decide (st3 a.2 b.2) := lex_eq intO h
theorem st3_e (a b : Str × Rol × Rol × Str) (h : a.1 = b.1) : decide (st3 a b) = decide (st4 a.2 b.2) := lex_eq strO h
theorem st4_e (a b : Rol × Rol × Str) (h : a.1 = b.1) : decide (st4 a b) = decide (st5 a.2 b.2) := lex_eq rolO h
theorem st5_e (a b : Rol × Str) (h : a.1 = b.1) : decide (st5 a b) = decide (a.2 < b.2) := lex_eq rolO h
theorem stm_n (a b : Stm) (h : a.1 ≠ b.1) : decide (stmLt a b) = decide (rolLt a.1 b.1) := lex_ne h
theorem st2_n (a b : Int × Str × Rol × Rol × Str) (h : a.1 ≠ b.1) : decide (st2 a b) = decide (intLt a.1 b.1) := lex_ne h
theorem st3_n (a b : Str × Rol × Rol × Str) (h : a.1 ≠ b.1) : decide (st3 a b) = decide (a.1 < b.1) := lex_ne h
theorem st4_n (a b : Rol × Rol × Str) (h : a.1 ≠ b.1) : decide (st4 a b) = decide (rolLt a.1 b.1) := lex_ne h
theorem st5_n (a b : Rol × Str) (h : a.1 ≠ b.1) : decide (st5 a b) = decide (rolLt a.1 b.1) := lex_ne h
section
variable {W : World}
set_option maxRecDepth 100000
set_option maxHeartbeats 3200000
theorem rBefore_spec (a b : Stm) : Calls Tryz.prog 58 #[stmV a, stmV b] W fun e W' => e = .returned (.bool (decide (stmLt a b))) ∧ Hid (Keeps (fun _ => False) W W') := by
 obtain ⟨⟨xh1, xh2⟩, xk, xo, ⟨xa1, xa2⟩, ⟨xb1, xb2⟩, xi⟩ := a
 obtain ⟨⟨yh1, yh2⟩, yk, yo, ⟨ya1, ya2⟩, ⟨yb1, yb2⟩, yi⟩ := b
 have HL : Hid (∀ (W : World) (p1 p2 q1 q2 : Str), Calls Tryz.prog 47 #[.agg #[.string ⟨p1.toArray⟩, .string ⟨p2.toArray⟩], .agg #[.string ⟨q1.toArray⟩, .string ⟨q2.toArray⟩]] W fun e W' => e = .returned (.bool (decide (rolLt (p1, p2) (q1, q2)))) ∧ Hid (Keeps (fun _ => False) W W')) := fun W p1 p2 q1 q2 => rless_spec (p1, p2) (q1, q2)
 have HK : Hid (Keeps (fun _ => False) W ((W.alloc (.cells #[.int .i64 xk, .string ⟨xh1.toArray⟩, .string ⟨xh2.toArray⟩, .string ⟨xo.toArray⟩, .string ⟨xa1.toArray⟩, .string ⟨xa2.toArray⟩, .string ⟨xb1.toArray⟩, .string ⟨xb2.toArray⟩, .string ⟨xi.toArray⟩] 44)).alloc (.cells #[.int .i64 yk, .string ⟨yh1.toArray⟩, .string ⟨yh2.toArray⟩, .string ⟨yo.toArray⟩, .string ⟨ya1.toArray⟩, .string ⟨ya2.toArray⟩, .string ⟨yb1.toArray⟩, .string ⟨yb2.toArray⟩, .string ⟨yi.toArray⟩] 44))) := ((Keeps.refl _ _).alloc _).alloc _
 unfold stmV
 by_cases eh1 : xh1 = yh1
 case neg =>
  have hb : (xh1 == yh1) = false := beq_eq_false_iff_ne.2 eh1
  have hd : decide (stmLt ((xh1, xh2), xk, xo, (xa1, xa2), (xb1, xb2), xi) ((yh1, yh2), yk, yo, (ya1, ya2), (yb1, yb2), yi)) = decide (rolLt (xh1, xh2) (yh1, yh2)) := stm_n ((xh1, xh2), xk, xo, (xa1, xa2), (xb1, xb2), xi) ((yh1, yh2), yk, yo, (ya1, ya2), (yb1, yb2), yi) (fun h => eh1 (congrArg Prod.fst h))
  rw [hd]
  clear hd eh1
  obtain ⟨r, hr⟩ : ∃ r, decide (rolLt (xh1, xh2) (yh1, yh2)) = r := ⟨_, rfl⟩
  have HL1 : Hid (∀ W : World, Calls Tryz.prog 47 #[.agg #[.string ⟨xh1.toArray⟩, .string ⟨xh2.toArray⟩], .agg #[.string ⟨yh1.toArray⟩, .string ⟨yh2.toArray⟩]] W fun e W' => e = .returned (.bool r) ∧ Hid (Keeps (fun _ => False) W W')) := fun W => by rw [← hr]; exact HL.out W _ _ _ _
  rw [hr]
  clear hr HL
  go_enter Tryz.func58, Tryz.ntmps58
  go_wp2_with fail
  refine (HL1.out _).mono ?_
  rintro e w1 ⟨rfl, h1⟩
  have HE : Hid (Keeps (fun _ => False) W w1) := HK.out.trans h1.out
  clear HL1 h1 HK
  go_wp2_with fail
  go_ret
  exact ⟨rfl, HE⟩
 subst eh1
 by_cases eh2 : xh2 = yh2
 case neg =>
  have hb : (xh2 == yh2) = false := beq_eq_false_iff_ne.2 eh2
  have hd : decide (stmLt ((xh1, xh2), xk, xo, (xa1, xa2), (xb1, xb2), xi) ((xh1, yh2), yk, yo, (ya1, ya2), (yb1, yb2), yi)) = decide (rolLt (xh1, xh2) (xh1, yh2)) := stm_n ((xh1, xh2), xk, xo, (xa1, xa2), (xb1, xb2), xi) ((xh1, yh2), yk, yo, (ya1, ya2), (yb1, yb2), yi) (fun h => eh2 (congrArg Prod.snd h))
  rw [hd]
  clear hd eh2
  obtain ⟨r, hr⟩ : ∃ r, decide (rolLt (xh1, xh2) (xh1, yh2)) = r := ⟨_, rfl⟩
  have HL1 : Hid (∀ W : World, Calls Tryz.prog 47 #[.agg #[.string ⟨xh1.toArray⟩, .string ⟨xh2.toArray⟩], .agg #[.string ⟨xh1.toArray⟩, .string ⟨yh2.toArray⟩]] W fun e W' => e = .returned (.bool r) ∧ Hid (Keeps (fun _ => False) W W')) := fun W => by rw [← hr]; exact HL.out W _ _ _ _
  rw [hr]
  clear hr HL
  go_enter Tryz.func58, Tryz.ntmps58
  go_wp2_with fail
  refine (HL1.out _).mono ?_
  rintro e w1 ⟨rfl, h1⟩
  have HE : Hid (Keeps (fun _ => False) W w1) := HK.out.trans h1.out
  clear HL1 h1 HK
  go_wp2_with fail
  go_ret
  exact ⟨rfl, HE⟩
 subst eh2
 by_cases ek : xk = yk
 case neg =>
  have hb : (xk != yk) = true := by simpa using ek
  have hd : decide (stmLt ((xh1, xh2), xk, xo, (xa1, xa2), (xb1, xb2), xi) ((xh1, xh2), yk, yo, (ya1, ya2), (yb1, yb2), yi)) = decide (intLt xk yk) := (stm_e ((xh1, xh2), xk, xo, (xa1, xa2), (xb1, xb2), xi) ((xh1, xh2), yk, yo, (ya1, ya2), (yb1, yb2), yi) rfl).trans (st2_n (xk, xo, (xa1, xa2), (xb1, xb2), xi) (yk, yo, (ya1, ya2), (yb1, yb2), yi) ek)
  rw [hd]
  clear hd ek HL
  go_enter Tryz.func58, Tryz.ntmps58
  go_wp2_with fail
  go_ret
  exact ⟨rfl, HK⟩
 subst ek
 by_cases eo : xo = yo
 case neg =>
  have hb : (xo == yo) = false := beq_eq_false_iff_ne.2 eo
  have hd : decide (stmLt ((xh1, xh2), xk, xo, (xa1, xa2), (xb1, xb2), xi) ((xh1, xh2), xk, yo, (ya1, ya2), (yb1, yb2), yi)) = decide (xo < yo) := (stm_e ((xh1, xh2), xk, xo, (xa1, xa2), (xb1, xb2), xi) ((xh1, xh2), xk, yo, (ya1, ya2), (yb1, yb2), yi) rfl).trans ((st2_e (xk, xo, (xa1, xa2), (xb1, xb2), xi) (xk, yo, (ya1, ya2), (yb1, yb2), yi) rfl).trans (st3_n (xo, (xa1, xa2), (xb1, xb2), xi) (yo, (ya1, ya2), (yb1, yb2), yi) eo))
  rw [hd]
  obtain ⟨r, hr⟩ : ∃ r, decide (xo < yo) = r := ⟨_, rfl⟩
  have hbl : Op.bytesLess xo yo = r := by rw [Go.Proofs.bytesLess_eq]; exact hr
  rw [hr]
  clear hd hr HL eo
  go_enter Tryz.func58, Tryz.ntmps58
  go_wp2_with fail
  go_ret
  exact ⟨rfl, HK⟩
 subst eo
 by_cases ea1 : xa1 = ya1
 case neg =>
  have hb : (xa1 == ya1) = false := beq_eq_false_iff_ne.2 ea1
  have hd : decide (stmLt ((xh1, xh2), xk, xo, (xa1, xa2), (xb1, xb2), xi) ((xh1, xh2), xk, xo, (ya1, ya2), (yb1, yb2), yi)) = decide (rolLt (xa1, xa2) (ya1, ya2)) := (stm_e ((xh1, xh2), xk, xo, (xa1, xa2), (xb1, xb2), xi) ((xh1, xh2), xk, xo, (ya1, ya2), (yb1, yb2), yi) rfl).trans ((st2_e (xk, xo, (xa1, xa2), (xb1, xb2), xi) (xk, xo, (ya1, ya2), (yb1, yb2), yi) rfl).trans ((st3_e (xo, (xa1, xa2), (xb1, xb2), xi) (xo, (ya1, ya2), (yb1, yb2), yi) rfl).trans (st4_n ((xa1, xa2), (xb1, xb2), xi) ((ya1, ya2), (yb1, yb2), yi) (fun h => ea1 (congrArg Prod.fst h)))))
  rw [hd]
  clear hd ea1
  obtain ⟨r, hr⟩ : ∃ r, decide (rolLt (xa1, xa2) (ya1, ya2)) = r := ⟨_, rfl⟩
  have HL1 : Hid (∀ W : World, Calls Tryz.prog 47 #[.agg #[.string ⟨xa1.toArray⟩, .string ⟨xa2.toArray⟩], .agg #[.string ⟨ya1.toArray⟩, .string ⟨ya2.toArray⟩]] W fun e W' => e = .returned (.bool r) ∧ Hid (Keeps (fun _ => False) W W')) := fun W => by rw [← hr]; exact HL.out W _ _ _ _
  rw [hr]
  clear hr HL
  go_enter Tryz.func58, Tryz.ntmps58
  go_wp2_with fail
  refine (HL1.out _).mono ?_
  rintro e w1 ⟨rfl, h1⟩
  have HE : Hid (Keeps (fun _ => False) W w1) := HK.out.trans h1.out
  clear HL1 h1 HK
  go_wp2_with fail
  go_ret
  exact ⟨rfl, HE⟩
 subst ea1
 by_cases ea2 : xa2 = ya2
 case neg =>
  have hb : (xa2 == ya2) = false := beq_eq_false_iff_ne.2 ea2
  have hd : decide (stmLt ((xh1, xh2), xk, xo, (xa1, xa2), (xb1, xb2), xi) ((xh1, xh2), xk, xo, (xa1, ya2), (yb1, yb2), yi)) = decide (rolLt (xa1, xa2) (xa1, ya2)) := (stm_e ((xh1, xh2), xk, xo, (xa1, xa2), (xb1, xb2), xi) ((xh1, xh2), xk, xo, (xa1, ya2), (yb1, yb2), yi) rfl).trans ((st2_e (xk, xo, (xa1, xa2), (xb1, xb2), xi) (xk, xo, (xa1, ya2), (yb1, yb2), yi) rfl).trans ((st3_e (xo, (xa1, xa2), (xb1, xb2), xi) (xo, (xa1, ya2), (yb1, yb2), yi) rfl).trans (st4_n ((xa1, xa2), (xb1, xb2), xi) ((xa1, ya2), (yb1, yb2), yi) (fun h => ea2 (congrArg Prod.snd h)))))
  rw [hd]
  clear hd ea2
  obtain ⟨r, hr⟩ : ∃ r, decide (rolLt (xa1, xa2) (xa1, ya2)) = r := ⟨_, rfl⟩
  have HL1 : Hid (∀ W : World, Calls Tryz.prog 47 #[.agg #[.string ⟨xa1.toArray⟩, .string ⟨xa2.toArray⟩], .agg #[.string ⟨xa1.toArray⟩, .string ⟨ya2.toArray⟩]] W fun e W' => e = .returned (.bool r) ∧ Hid (Keeps (fun _ => False) W W')) := fun W => by rw [← hr]; exact HL.out W _ _ _ _
  rw [hr]
  clear hr HL
  go_enter Tryz.func58, Tryz.ntmps58
  go_wp2_with fail
  refine (HL1.out _).mono ?_
  rintro e w1 ⟨rfl, h1⟩
  have HE : Hid (Keeps (fun _ => False) W w1) := HK.out.trans h1.out
  clear HL1 h1 HK
  go_wp2_with fail
  go_ret
  exact ⟨rfl, HE⟩
 subst ea2
 by_cases eb1 : xb1 = yb1
 case neg =>
  have hb : (xb1 == yb1) = false := beq_eq_false_iff_ne.2 eb1
  have hd : decide (stmLt ((xh1, xh2), xk, xo, (xa1, xa2), (xb1, xb2), xi) ((xh1, xh2), xk, xo, (xa1, xa2), (yb1, yb2), yi)) = decide (rolLt (xb1, xb2) (yb1, yb2)) := (stm_e ((xh1, xh2), xk, xo, (xa1, xa2), (xb1, xb2), xi) ((xh1, xh2), xk, xo, (xa1, xa2), (yb1, yb2), yi) rfl).trans ((st2_e (xk, xo, (xa1, xa2), (xb1, xb2), xi) (xk, xo, (xa1, xa2), (yb1, yb2), yi) rfl).trans ((st3_e (xo, (xa1, xa2), (xb1, xb2), xi) (xo, (xa1, xa2), (yb1, yb2), yi) rfl).trans ((st4_e ((xa1, xa2), (xb1, xb2), xi) ((xa1, xa2), (yb1, yb2), yi) rfl).trans (st5_n ((xb1, xb2), xi) ((yb1, yb2), yi) (fun h => eb1 (congrArg Prod.fst h))))))
  rw [hd]
  clear hd eb1
  obtain ⟨r, hr⟩ : ∃ r, decide (rolLt (xb1, xb2) (yb1, yb2)) = r := ⟨_, rfl⟩
  have HL1 : Hid (∀ W : World, Calls Tryz.prog 47 #[.agg #[.string ⟨xb1.toArray⟩, .string ⟨xb2.toArray⟩], .agg #[.string ⟨yb1.toArray⟩, .string ⟨yb2.toArray⟩]] W fun e W' => e = .returned (.bool r) ∧ Hid (Keeps (fun _ => False) W W')) := fun W => by rw [← hr]; exact HL.out W _ _ _ _
  rw [hr]
  clear hr HL
  go_enter Tryz.func58, Tryz.ntmps58
  go_wp2_with fail
  refine (HL1.out _).mono ?_
  rintro e w1 ⟨rfl, h1⟩
  have HE : Hid (Keeps (fun _ => False) W w1) := HK.out.trans h1.out
  clear HL1 h1 HK
  go_wp2_with fail
  go_ret
  exact ⟨rfl, HE⟩
 subst eb1
 by_cases eb2 : xb2 = yb2
 case neg =>
  have hb : (xb2 == yb2) = false := beq_eq_false_iff_ne.2 eb2
  have hd : decide (stmLt ((xh1, xh2), xk, xo, (xa1, xa2), (xb1, xb2), xi) ((xh1, xh2), xk, xo, (xa1, xa2), (xb1, yb2), yi)) = decide (rolLt (xb1, xb2) (xb1, yb2)) := (stm_e ((xh1, xh2), xk, xo, (xa1, xa2), (xb1, xb2), xi) ((xh1, xh2), xk, xo, (xa1, xa2), (xb1, yb2), yi) rfl).trans ((st2_e (xk, xo, (xa1, xa2), (xb1, xb2), xi) (xk, xo, (xa1, xa2), (xb1, yb2), yi) rfl).trans ((st3_e (xo, (xa1, xa2), (xb1, xb2), xi) (xo, (xa1, xa2), (xb1, yb2), yi) rfl).trans ((st4_e ((xa1, xa2), (xb1, xb2), xi) ((xa1, xa2), (xb1, yb2), yi) rfl).trans (st5_n ((xb1, xb2), xi) ((xb1, yb2), yi) (fun h => eb2 (congrArg Prod.snd h))))))
  rw [hd]
  clear hd eb2
  obtain ⟨r, hr⟩ : ∃ r, decide (rolLt (xb1, xb2) (xb1, yb2)) = r := ⟨_, rfl⟩
  have HL1 : Hid (∀ W : World, Calls Tryz.prog 47 #[.agg #[.string ⟨xb1.toArray⟩, .string ⟨xb2.toArray⟩], .agg #[.string ⟨xb1.toArray⟩, .string ⟨yb2.toArray⟩]] W fun e W' => e = .returned (.bool r) ∧ Hid (Keeps (fun _ => False) W W')) := fun W => by rw [← hr]; exact HL.out W _ _ _ _
  rw [hr]
  clear hr HL
  go_enter Tryz.func58, Tryz.ntmps58
  go_wp2_with fail
  refine (HL1.out _).mono ?_
  rintro e w1 ⟨rfl, h1⟩
  have HE : Hid (Keeps (fun _ => False) W w1) := HK.out.trans h1.out
  clear HL1 h1 HK
  go_wp2_with fail
  go_ret
  exact ⟨rfl, HE⟩
 subst eb2
 have hd : decide (stmLt ((xh1, xh2), xk, xo, (xa1, xa2), (xb1, xb2), xi) ((xh1, xh2), xk, xo, (xa1, xa2), (xb1, xb2), yi)) = decide (xi < yi) := (stm_e ((xh1, xh2), xk, xo, (xa1, xa2), (xb1, xb2), xi) ((xh1, xh2), xk, xo, (xa1, xa2), (xb1, xb2), yi) rfl).trans ((st2_e (xk, xo, (xa1, xa2), (xb1, xb2), xi) (xk, xo, (xa1, xa2), (xb1, xb2), yi) rfl).trans ((st3_e (xo, (xa1, xa2), (xb1, xb2), xi) (xo, (xa1, xa2), (xb1, xb2), yi) rfl).trans ((st4_e ((xa1, xa2), (xb1, xb2), xi) ((xa1, xa2), (xb1, xb2), yi) rfl).trans (st5_e ((xb1, xb2), xi) ((xb1, xb2), yi) rfl))))
 rw [hd]
 obtain ⟨r, hr⟩ : ∃ r, decide (xi < yi) = r := ⟨_, rfl⟩
 have hbl : Op.bytesLess xi yi = r := by rw [Go.Proofs.bytesLess_eq]; exact hr
 rw [hr]
 clear hd hr HL
 go_enter Tryz.func58, Tryz.ntmps58
 go_wp2_with fail
 go_ret
 exact ⟨rfl, HK⟩
end
end Go.Proofs.YtcdfpnlaklaafaaGreat
