/-
 Who is in which role by statements; that statements about roles that don't count change nothing; the document's rounds by names. No program in sight.
-/
import Derived.Test.YtededjfjbkcepaaGreatMA
set_option linter.unusedVariables false
set_option linter.unusedSimpArgs false
namespace Go.Proofs.YtededjfjbkcepaaGreat
/-- That a principal is in a role. -/
abbrev Pr := Rol × Str
inductive Der (F : List Stm) : Rol → Str → Prop
 | mem {y : Stm} : y ∈ F → y.2.1 = 1 → Der F y.1 y.2.2.1
 | incl {y : Stm} {w : Str} : y ∈ F → y.2.1 = 2 → Der F y.2.2.2.1 w → Der F y.1 w
 | link {y : Stm} {u w : Str} : y ∈ F → y.2.1 = 3 → Der F y.2.2.2.1 u → Der F (u, y.2.2.2.2.2) w → Der F y.1 w
 | both {y : Stm} {w : Str} : y ∈ F → y.2.1 = 4 → Der F y.2.2.2.1 w → Der F y.2.2.2.2.1 w → Der F y.1 w
theorem Der.mono {F F' : List Stm} (h : ∀ y ∈ F, y ∈ F') {r : Rol} {w : Str} (d : Der F r w) : Der F' r w := by
 induction d with
 | mem hy hk => exact .mem (h _ hy) hk
 | incl hy hk _ ih => exact .incl (h _ hy) hk ih
 | link hy hk _ _ ih1 ih2 => exact .link (h _ hy) hk ih1 ih2
 | both hy hk _ _ ih1 ih2 => exact .both (h _ hy) hk ih1 ih2
theorem has_role {R : List Rol} {L : List Str} {r : Rol} (h : r ∈ R) : hasV R L r = true := by
 unfold hasV
 rw [decide_eq_true h, Bool.true_or]
theorem has_name {R : List Rol} {L : List Str} {r : Rol} (h : r.2 ∈ L) : hasV R L r = true := by
 unfold hasV
 rw [decide_eq_true h, Bool.or_true]
/-- What is said about roles that don't count changes nothing for those that do. -/
theorem Der.cut {g h : List Rol} {st few all : List Stm} {R : List Rol} {L : List Str} (hs : Shut2 g h st R L) (hall : ∀ y ∈ all, y ∈ few ∨ hasV R L y.1 = false) (hfew : ∀ y ∈ few, y ∈ st ∧ folB g h R L y = true) {r : Rol} {w : Str} (d : Der all r w) : hasV R L r = true → Der few r w := by
 induction d with
 | @mem y hy hk =>
  intro hr
  rcases hall y hy with q | q
  ·exact .mem q hk
  ·rw [hr] at q; cases q
 | @incl y w hy hk _ ih =>
  intro hr
  rcases hall y hy with q | q
  ·obtain ⟨q1, q2⟩ := hfew y q
   refine .incl q hk (ih (has_role ((hs y q1 q2).1 _ ?_)))
   unfold moreS
   rw [hk]
   exact List.mem_cons_self ..
  ·rw [hr] at q; cases q
 | @link y u w hy hk _ _ ih1 ih2 =>
  intro hr
  rcases hall y hy with q | q
  ·obtain ⟨q1, q2⟩ := hfew y q
   refine .link q hk (ih1 (has_role ((hs y q1 q2).1 _ ?_))) (ih2 (has_name ((hs y q1 q2).2 _ ?_)))
   ·unfold moreS
    rw [hk]
    exact List.mem_cons_self ..
   ·unfold viaS
    rw [hk]
    exact List.mem_cons_self ..
  ·rw [hr] at q; cases q
 | @both y w hy hk _ _ ih1 ih2 =>
  intro hr
  rcases hall y hy with q | q
  ·obtain ⟨q1, q2⟩ := hfew y q
   refine .both q hk (ih1 (has_role ((hs y q1 q2).1 _ ?_))) (ih2 (has_role ((hs y q1 q2).1 _ ?_)))
   ·unfold moreS
    rw [hk]
    exact List.mem_cons_self ..
   ·unfold moreS
    rw [hk]
    exact List.mem_cons_of_mem _ (List.mem_cons_self ..)
  ·rw [hr] at q; cases q
/-- Whoever is in a role is named by a statement of the first kind; and a role that has somebody is a head. -/
theorem Der.named {F : List Stm} {r : Rol} {w : Str} (d : Der F r w) : r ∈ F.map (·.1) ∧ w ∈ F.map (·.2.2.1) := by
 induction d with
 | mem hy hk => exact ⟨List.mem_map.2 ⟨_, hy, rfl⟩, List.mem_map.2 ⟨_, hy, rfl⟩⟩
 | incl hy hk _ ih => exact ⟨List.mem_map.2 ⟨_, hy, rfl⟩, ih.2⟩
 | link hy hk _ _ ih1 ih2 => exact ⟨List.mem_map.2 ⟨_, hy, rfl⟩, ih2.2⟩
 | both hy hk _ _ ih1 ih2 => exact ⟨List.mem_map.2 ⟨_, hy, rfl⟩, ih1.2⟩
/-- Who follows by a statement, of what was found: of one pair that was found. -/
def folX (l : List Pr) (y : Stm) (x : Pr) : List Str :=
 if x.1 = y.2.2.2.1 then
  (if y.2.1 = 2 ∨ (y.2.1 = 4 ∧ (y.2.2.2.2.1, x.2) ∈ l) then [x.2] else []) ++ (if y.2.1 = 3 then (l.filter (fun z => decide (z.1 = (x.2, y.2.2.2.2.2)))).map (·.2) else [])
 else []
def folL (l : List Pr) (y : Stm) : List Str := if y.2.1 = 1 then [y.2.2.1] else l.flatMap (folX l y)
/-- One more pair, if it isn't there. -/
def addP (l : List Pr) (p : Pr) : List Pr := if p ∈ l then l else l ++ [p]
def stepP (l : List Pr) (y : Stm) : List Pr := (folL l y).foldl (fun l w => addP l (y.1, w)) l
theorem addP_mem {l : List Pr} {p x : Pr} : x ∈ addP l p ↔ x ∈ l ∨ x = p := by
 unfold addP
 split
 ·rename_i h
  exact ⟨.inl, fun q => q.elim id (fun e => by rw [e]; exact h)⟩
 ·rw [List.mem_append, List.mem_singleton]
theorem addsP_mem {r : Rol} : ∀ (ws : List Str) (l : List Pr) (x : Pr), x ∈ ws.foldl (fun l w => addP l (r, w)) l ↔ x ∈ l ∨ (x.1 = r ∧ x.2 ∈ ws)
 | [], l, x => by simp
 | w :: ws, l, x => by
  rw [List.foldl_cons, addsP_mem ws, addP_mem]
  constructor
  ·rintro ((h | rfl) | ⟨h1, h2⟩)
   ·exact .inl h
   ·exact .inr ⟨rfl, List.mem_cons_self ..⟩
   ·exact .inr ⟨h1, List.mem_cons_of_mem _ h2⟩
  ·rintro (h | ⟨h1, h2⟩)
   ·exact .inl (.inl h)
   ·rcases List.mem_cons.1 h2 with e | e
    ·exact .inl (.inr (Prod.ext h1 e))
    ·exact .inr ⟨h1, e⟩
theorem stepP_mem {l : List Pr} {y : Stm} {x : Pr} : x ∈ stepP l y ↔ x ∈ l ∨ (x.1 = y.1 ∧ x.2 ∈ folL l y) := addsP_mem _ _ _
theorem addP_nodup {l : List Pr} {p : Pr} (h : l.Nodup) : (addP l p).Nodup := by
 unfold addP
 split
 ·exact h
 ·rename_i hp
  exact List.nodup_append.2 ⟨h, List.pairwise_singleton _ _, fun a ha b hb e => hp (by rw [List.mem_singleton] at hb; rw [← hb, ← e]; exact ha)⟩
theorem addsP_nodup {r : Rol} : ∀ (ws : List Str) {l : List Pr}, l.Nodup → (ws.foldl (fun l w => addP l (r, w)) l).Nodup
 | [], _, h => h
 | w :: ws, _, h => addsP_nodup ws (addP_nodup h)
theorem addP_len (l : List Pr) (p : Pr) : l.length ≤ (addP l p).length ∧ ((addP l p).length = l.length → addP l p = l ∧ p ∈ l) := by
 unfold addP
 split
 ·rename_i h
  exact ⟨Nat.le_refl _, fun _ => ⟨rfl, h⟩⟩
 ·rw [List.length_append, List.length_singleton]
  exact ⟨Nat.le_succ _, fun e => by omega⟩
theorem addsP_len {r : Rol} : ∀ (ws : List Str) (l : List Pr), l.length ≤ (ws.foldl (fun l w => addP l (r, w)) l).length ∧ ((ws.foldl (fun l w => addP l (r, w)) l).length = l.length → ws.foldl (fun l w => addP l (r, w)) l = l)
 | [], l => ⟨Nat.le_refl _, fun _ => rfl⟩
 | w :: ws, l => by
  obtain ⟨a1, a2⟩ := addP_len l (r, w)
  obtain ⟨b1, b2⟩ := addsP_len ws (addP l (r, w))
  rw [List.foldl_cons]
  refine ⟨Nat.le_trans a1 b1, fun e => ?_⟩
  have e1 : (addP l (r, w)).length = l.length := by omega
  rw [(a2 e1).1] at b2 e ⊢
  exact b2 e
theorem folX_sound {F : List Stm} {l : List Pr} (hl : ∀ x ∈ l, Der F x.1 x.2) {y : Stm} (hy : y ∈ F) {x : Pr} (hx : x ∈ l) {w : Str} (hw : w ∈ folX l y x) : Der F y.1 w := by
 unfold folX at hw
 split at hw
 ·rename_i hA
  have hd := hl x hx
  rw [hA] at hd
  rcases List.mem_append.1 hw with h | h
  ·split at h
   ·rename_i hk
    rw [List.mem_singleton] at h
    subst h
    rcases hk with k | ⟨k, hb⟩
    ·exact .incl hy k hd
    ·exact .both hy k hd (hl _ hb)
   ·cases h
  ·split at h
   ·rename_i hk
    obtain ⟨z, hz, rfl⟩ := List.mem_map.1 h
    obtain ⟨hz1, hz2⟩ := List.mem_filter.1 hz
    have hz2 := of_decide_eq_true hz2
    have hdz := hl z hz1
    rw [hz2] at hdz
    exact .link hy hk hd hdz
   ·cases h
 ·cases hw
theorem folL_sound {F : List Stm} {l : List Pr} (hl : ∀ x ∈ l, Der F x.1 x.2) {y : Stm} (hy : y ∈ F) {w : Str} (hw : w ∈ folL l y) : Der F y.1 w := by
 unfold folL at hw
 split at hw
 ·rename_i hk
  rw [List.mem_singleton] at hw
  rw [hw]
  exact .mem hy hk
 ·obtain ⟨x, hx, hw⟩ := List.mem_flatMap.1 hw
  exact folX_sound hl hy hx hw
theorem stepP_sound {F : List Stm} {l : List Pr} (hl : ∀ x ∈ l, Der F x.1 x.2) {y : Stm} (hy : y ∈ F) : ∀ x ∈ stepP l y, Der F x.1 x.2 := fun x hx => by
 rcases stepP_mem.1 hx with h | ⟨h1, h2⟩
 ·exact hl x h
 ·rw [h1]
  exact folL_sound hl hy h2
/-- What is shut under the statements has all that follows. -/
theorem shut_all {F : List Stm} {l : List Pr} (hk : ∀ y ∈ F, 1 ≤ y.2.1 ∧ y.2.1 ≤ 4) (hs : ∀ y ∈ F, ∀ w ∈ folL l y, (y.1, w) ∈ l) {r : Rol} {w : Str} (d : Der F r w) : (r, w) ∈ l := by
 induction d with
 | @mem y hy hk =>
  refine hs y hy _ ?_
  unfold folL
  rw [if_pos hk]
  exact List.mem_singleton.2 rfl
 | @incl y w hy hk _ ih =>
  refine hs y hy _ ?_
  unfold folL
  rw [if_neg (by omega)]
  refine List.mem_flatMap.2 ⟨_, ih, ?_⟩
  unfold folX
  rw [if_pos rfl, if_pos (.inl hk)]
  exact List.mem_append_left _ (List.mem_singleton.2 rfl)
 | @link y u w hy hk _ _ ih1 ih2 =>
  refine hs y hy _ ?_
  unfold folL
  rw [if_neg (by omega)]
  refine List.mem_flatMap.2 ⟨_, ih1, ?_⟩
  unfold folX
  rw [if_pos rfl, if_pos hk]
  exact List.mem_append_right _ (List.mem_map.2 ⟨_, List.mem_filter.2 ⟨ih2, decide_eq_true rfl⟩, rfl⟩)
 | @both y w hy hk _ _ ih1 ih2 =>
  refine hs y hy _ ?_
  unfold folL
  rw [if_neg (by omega)]
  refine List.mem_flatMap.2 ⟨_, ih1, ?_⟩
  unfold folX
  rw [if_pos rfl, if_pos (.inr ⟨hk, ih2⟩)]
  exact List.mem_append_left _ (List.mem_singleton.2 rfl)
/-- What the rounds hold on the way: each once, and nothing that doesn't follow. -/
structure EvI (F : List Stm) (l : List Pr) : Prop where
 nd : l.Nodup
 der : ∀ x ∈ l, Der F x.1 x.2
theorem EvI.nil (F : List Stm) : EvI F [] := ⟨List.nodup_nil, fun x h => by cases h⟩
theorem EvI.step {F : List Stm} {l : List Pr} (h : EvI F l) {y : Stm} (hy : y ∈ F) : EvI F (stepP l y) := ⟨addsP_nodup _ h.nd, stepP_sound h.der hy⟩
theorem EvI.add {F : List Stm} {l l0 : List Pr} (h : EvI F l) {y : Stm} (hy : y ∈ F) (h0 : ∀ x ∈ l0, Der F x.1 x.2) {w : Str} (hw : w ∈ folL l0 y) : EvI F (addP l (y.1, w)) :=
 ⟨addP_nodup h.nd, fun x hx => (addP_mem.1 hx).elim (h.der x) (fun e => by rw [e]; exact folL_sound h0 hy hw)⟩
theorem nodup_le {α : Type} [DecidableEq α] : ∀ (R U : List α), R.Nodup → (∀ x ∈ R, x ∈ U) → R.length ≤ U.length
 | [], U, _, _ => Nat.zero_le _
 | x :: R, U, hp, hs => by
  have hp := List.nodup_cons.1 hp
  have hx := hs x (List.mem_cons_self ..)
  have ih := nodup_le R (U.erase x) hp.2 (fun y hy => (List.mem_erase_of_ne (fun e => hp.1 (by rw [← e]; exact hy))).2 (hs y (List.mem_cons_of_mem _ hy)))
  rw [List.length_erase_of_mem hx] at ih
  have := List.length_pos_of_mem hx
  simp only [List.length_cons]
  omega
/-- Pairs of so many roles and so many names, each once. -/
theorem pairs_le {A : List Rol} {U : List Str} : ∀ (l : List Pr), l.Nodup → (∀ x ∈ l, x.1 ∈ A ∧ x.2 ∈ U) → l.length ≤ A.length * U.length := fun l hn hm => by
 have h : l ⊆ A.flatMap (fun a => U.map (fun u => (a, u))) := fun x hx => List.mem_flatMap.2 ⟨x.1, (hm x hx).1, List.mem_map.2 ⟨x.2, (hm x hx).2, rfl⟩⟩
 have hl := nodup_le l _ hn h
 have e : ∀ A : List Rol, (A.flatMap (fun a => U.map (fun u => (a, u)))).length = A.length * U.length := by
  intro A
  induction A with
  | nil => simp
  | cons a A ih => rw [List.flatMap_cons, List.length_append, ih, List.length_map, List.length_cons, Nat.add_mul, Nat.one_mul, Nat.add_comm]
 rw [e A] at hl
 exact hl
theorem EvI.len {F : List Stm} {l : List Pr} (h : EvI F l) : l.length ≤ F.length * F.length := by
 have := pairs_le (A := F.map (·.1)) (U := F.map (·.2.2.1)) l h.nd (fun x hx => (h.der x hx).named)
 rw [List.length_map, List.length_map] at this
 exact this
/-- Of one role there are no more than names. -/
theorem EvI.of_role {F : List Stm} {l : List Pr} (h : EvI F l) (r : Rol) : (l.filter (fun z => decide (z.1 = r))).length ≤ F.length := by
 have := pairs_le (A := [r]) (U := F.map (·.2.2.1)) (l.filter (fun z => decide (z.1 = r))) (h.nd.filter _) (fun x hx => by
  obtain ⟨h1, h2⟩ := List.mem_filter.1 hx
  exact ⟨List.mem_singleton.2 (of_decide_eq_true h2), (h.der x h1).named.2⟩)
 rw [List.length_map, List.length_singleton, Nat.one_mul] at this
 exact this
end Go.Proofs.YtededjfjbkcepaaGreat
