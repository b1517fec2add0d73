/-
 What is drawn is right: letters, roles, statements, queries, policies; the roles, principals and names of a policy. No program in sight.
-/
import Derived.Test.YtcdfpnlaklaafaaGreatDrillPlain
import Derived.Test.YtcdfpnlaklaafaaGreatNameIs
set_option linter.unusedVariables false
set_option linter.unusedSimpArgs false
set_option linter.unnecessarySimpa false
namespace Go.Proofs.YtcdfpnlaklaafaaGreat
/-- One of the first so many letters from a byte on. -/
def Let (base n : Int) (t : Str) : Prop := ∃ i : Int, 0 ≤ i ∧ i < n ∧ t = [(base + i).toNat.toUInt8]
def RolB (s : Shp) (r : Rol) : Prop := Let 65 s.prins r.1 ∧ Let 114 s.links r.2
section
variable {s : Shp} {x : Int}
theorem fits_parts (h : fitsD s = true) : 1 ≤ s.prins ∧ s.prins ≤ 8 ∧ 1 ≤ s.links ∧ s.links ≤ 6 ∧ 0 ≤ s.stmts ∧ s.stmts ≤ 40 ∧ 0 ≤ s.grow ∧ s.grow ≤ 40 ∧ 0 ≤ s.shrink ∧ s.shrink ≤ 40 ∧ 0 ≤ s.asks ∧ s.asks ≤ 8 := by
 unfold fitsD at h
 exact of_decide_eq_true h
theorem prin_let (h : fitsD s = true) : Let 65 s.prins (prinD x s).1 :=
 have r := belD_range (x := x) (fits_parts h).1
 ⟨_, r.1, r.2, rfl⟩
theorem name_let (h : fitsD s = true) : Let 114 s.links (nameD x s).1 :=
 have r := belD_range (x := x) (fits_parts h).2.2.1
 ⟨_, r.1, r.2, rfl⟩
theorem rol_b (h : fitsD s = true) : RolB s (rolD x s).1 := ⟨prin_let h, name_let h⟩
theorem let_prin {t : Str} (h : Let 65 s.prins t) (hf : fitsD s = true) : isB 65 90 ⟨t.toArray⟩ = true := by
 obtain ⟨i, h0, h1, rfl⟩ := h
 have h8 := (fits_parts hf).2.1
 have hi : i = 0 ∨ i = 1 ∨ i = 2 ∨ i = 3 ∨ i = 4 ∨ i = 5 ∨ i = 6 ∨ i = 7 := by omega
 rcases hi with rfl | rfl | rfl | rfl | rfl | rfl | rfl | rfl <;> decide +kernel
theorem let_name {t : Str} (h : Let 114 s.links t) (hf : fitsD s = true) : isB 97 122 ⟨t.toArray⟩ = true := by
 obtain ⟨i, h0, h1, rfl⟩ := h
 have h8 := (fits_parts hf).2.2.2.1
 have hi : i = 0 ∨ i = 1 ∨ i = 2 ∨ i = 3 ∨ i = 4 ∨ i = 5 := by omega
 rcases hi with rfl | rfl | rfl | rfl | rfl | rfl <;> decide +kernel
/-- A statement that may be. -/
def StmB (s : Shp) (x : Stm) : Prop := RolB s x.1 ∧ ((x.2.1 = 1 ∧ Let 65 s.prins x.2.2.1 ∧ x.2.2.2.1 = noRol ∧ x.2.2.2.2.1 = noRol ∧ x.2.2.2.2.2 = []) ∨ (x.2.1 = 2 ∧ x.2.2.1 = [] ∧ RolB s x.2.2.2.1 ∧ x.2.2.2.2.1 = noRol ∧ x.2.2.2.2.2 = []) ∨ (x.2.1 = 3 ∧ x.2.2.1 = [] ∧ RolB s x.2.2.2.1 ∧ x.2.2.2.2.1 = noRol ∧ Let 114 s.links x.2.2.2.2.2) ∨ (x.2.1 = 4 ∧ x.2.2.1 = [] ∧ RolB s x.2.2.2.1 ∧ RolB s x.2.2.2.2.1 ∧ x.2.2.2.2.2 = [] ∧ ¬ rolLt x.2.2.2.2.1 x.2.2.2.1))
theorem norm_b {y : Stm} (h : StmB s y) : normS y = y := by
 unfold normS
 rw [if_neg]
 rintro ⟨h4, hl⟩
 rcases h.2 with q | q | q | q
 · omega
 · omega
 · omega
 · exact q.2.2.2.2.2 hl
theorem stm_b (h : fitsD s = true) : StmB s (stmD x s).1 := by
 unfold stmD
 have r := belD_range (x := (rolD x s).2) (n := 4) (by decide)
 show StmB s (normS (bodD (rolD x s).1 (1 + (belD (rolD x s).2 4).1) (belD (rolD x s).2 4).2 s).1)
 obtain ⟨k, hk⟩ : ∃ k, belD (rolD x s).2 4 = k := ⟨_, rfl⟩
 rw [hk] at r ⊢
 have hh := rol_b (x := x) h
 generalize (rolD x s).1 = hd at hh
 obtain ⟨k, y⟩ := k
 simp only at r ⊢
 have hc : k = 0 ∨ k = 1 ∨ k = 2 ∨ k = 3 := by omega
 rcases hc with rfl | rfl | rfl | rfl
 · have e : bodD hd (1 + 0) y s = ((hd, 1, (prinD y s).1, noRol, noRol, []), (prinD y s).2) := rfl
   rw [e]
   have hb : StmB s (hd, 1, (prinD y s).1, noRol, noRol, []) := ⟨hh, .inl ⟨rfl, prin_let h, rfl, rfl, rfl⟩⟩
   rw [norm_b hb]
   exact hb
 · have e : bodD hd (1 + 1) y s = ((hd, 2, [], (rolD y s).1, noRol, []), (rolD y s).2) := rfl
   rw [e]
   have hb : StmB s (hd, 2, [], (rolD y s).1, noRol, []) := ⟨hh, .inr (.inl ⟨rfl, rfl, rol_b h, rfl, rfl⟩)⟩
   rw [norm_b hb]
   exact hb
 · have e : bodD hd (1 + 2) y s = ((hd, 3, [], (rolD y s).1, noRol, (nameD (rolD y s).2 s).1), (nameD (rolD y s).2 s).2) := rfl
   rw [e]
   have hb : StmB s (hd, 3, [], (rolD y s).1, noRol, (nameD (rolD y s).2 s).1) := ⟨hh, .inr (.inr (.inl ⟨rfl, rfl, rol_b h, rfl, name_let h⟩))⟩
   rw [norm_b hb]
   exact hb
 · have e : bodD hd (1 + 3) y s = ((hd, 4, [], (rolD y s).1, (rolD (rolD y s).2 s).1, []), (rolD (rolD y s).2 s).2) := rfl
   rw [e]
   have ha := rol_b (x := y) h
   have hb := rol_b (x := (rolD y s).2) h
   generalize (rolD (rolD y s).2 s).1 = b at hb
   generalize (rolD y s).1 = a at ha
   unfold normS
   by_cases hl : rolLt b a
   · rw [if_pos ⟨rfl, hl⟩]
     exact ⟨hh, .inr (.inr (.inr ⟨rfl, rfl, hb, ha, rfl, fun q => rolO.irrefl _ (rolO.trans hl q)⟩))⟩
   · rw [if_neg (fun q => hl q.2)]
     exact ⟨hh, .inr (.inr (.inr ⟨rfl, rfl, ha, hb, rfl, hl⟩))⟩
/-- A query that may be. -/
def QryB (s : Shp) (q : Qry) : Prop := RolB s q.2.1 ∧ (∀ w ∈ q.2.2.2, Let 65 s.prins w) ∧ q.2.2.2.Pairwise (· < ·) ∧ q.2.2.2.length ≤ 12 ∧ (((q.1 = 1 ∨ q.1 = 2) ∧ q.2.2.1 = noRol ∧ 0 < q.2.2.2.length) ∨ (q.1 = 3 ∧ q.2.2.1 = noRol) ∨ (q.1 = 4 ∧ q.2.2.1 = noRol ∧ q.2.2.2 = []) ∨ ((q.1 = 5 ∨ q.1 = 6) ∧ RolB s q.2.2.1 ∧ q.2.2.2 = []))
theorem who_let (h : fitsD s = true) : ∀ (n : Nat) (x : Int), ∀ w ∈ (whoD s n x).1, Let 65 s.prins w
 | 0, x, w, hw => by cases hw
 | n + 1, x, w, hw => by
  rcases List.mem_cons.1 hw with rfl | hw
  · exact prin_let h
  · exact who_let h n _ w hw
theorem who_length (s : Shp) : ∀ (n : Nat) (x : Int), (whoD s n x).1.length = n
 | 0, x => rfl
 | n + 1, x => congrArg Nat.succ (who_length s n _)
theorem sort_len {α : Type} (lt : α → α → Prop) [DecidableRel lt] [DecidableEq α] (l : List α) : (sortO lt l).length ≤ l.length := by
 have sl : ∀ (l a : List α), (l.foldl (putO lt) a).length ≤ a.length + l.length := by
  intro l
  induction l with
  | nil => intro a; simp
  | cons x l ih =>
   intro a
   have h1 := ih (putO lt a x)
   have h2 : (putO lt a x).length ≤ a.length + 1 := by
    unfold putO
    split
    · omega
    · have := ahead_le (lt := lt) x a
      simp only [List.length_append, List.length_take, List.length_drop, List.length_cons, List.length_nil]
      omega
   simp only [List.foldl_cons, List.length_cons]
   omega
 have q := sl l []
 rw [List.length_nil, Nat.zero_add] at q
 exact q
theorem sort_same {α : Type} {lt : α → α → Prop} [DecidableRel lt] [DecidableEq α] (o : LO lt) (l : List α) : sortO lt l = sortO lt (sortO lt l) := sortO_eq o (sortO_rises o l) (fun _ => Iff.rfl)
theorem who_b (h : fitsD s = true) (n : Nat) (y : Int) (hn : n ≤ 2) : (∀ w ∈ sortO (· < ·) (whoD s n y).1, Let 65 s.prins w) ∧ (sortO (· < ·) (whoD s n y).1).Pairwise (· < ·) ∧ (sortO (· < ·) (whoD s n y).1).length ≤ 12 ∧ (0 < n → 0 < (sortO (· < ·) (whoD s n y).1).length) := by
 refine ⟨fun w hw => who_let h n y w ((sortO_mem _ _).1 hw), sortO_rises strO _, ?_, fun h0 => ?_⟩
 · have := sort_len (fun a b : Str => a < b) (whoD s n y).1
   rw [who_length] at this
   omega
 · cases n with
   | zero => omega
   | succ n => exact List.length_pos_of_mem ((sortO_mem (lt := fun a b : Str => a < b) (whoD s (n + 1) y).1 (prinD y s).1).2 (List.mem_cons_self ..))
theorem qry_b (h : fitsD s = true) : QryB s (askD x s).1 := by
 unfold askD
 have r := belD_range (x := x) (n := 6) (by decide)
 obtain ⟨k, hk⟩ : ∃ k, belD x 6 = k := ⟨_, rfl⟩
 rw [hk] at r
 simp only [hk]
 obtain ⟨k, y⟩ := k
 simp only at r ⊢
 have ha := rol_b (x := y) h
 generalize rolD y s = a at ha
 have hc : k = 0 ∨ k = 1 ∨ k = 2 ∨ k = 3 ∨ k = 4 ∨ k = 5 := by omega
 have hn2 := belD_range (x := a.2) (n := 2) (by decide)
 have hn3 := belD_range (x := a.2) (n := 3) (by decide)
 rcases hc with rfl | rfl | rfl | rfl | rfl | rfl
 · rw [if_pos (by decide)]
   have w := who_b h (1 + (belD a.2 2).1).toNat (belD a.2 2).2 (by omega)
   exact ⟨ha, w.1, w.2.1, w.2.2.1, .inl ⟨.inl rfl, rfl, w.2.2.2 (by omega)⟩⟩
 · rw [if_pos (by decide)]
   have w := who_b h (1 + (belD a.2 2).1).toNat (belD a.2 2).2 (by omega)
   exact ⟨ha, w.1, w.2.1, w.2.2.1, .inl ⟨.inr rfl, rfl, w.2.2.2 (by omega)⟩⟩
 · rw [if_neg (by decide), if_pos rfl]
   have w := who_b h (belD a.2 3).1.toNat (belD a.2 3).2 (by omega)
   exact ⟨ha, w.1, w.2.1, w.2.2.1, .inr (.inl ⟨rfl, rfl⟩)⟩
 · rw [if_neg (by decide), if_neg (by decide), if_pos rfl]
   exact ⟨ha, (fun w hw => by cases hw), List.Pairwise.nil, by simp, .inr (.inr (.inl ⟨rfl, rfl, rfl⟩))⟩
 · rw [if_neg (by decide), if_neg (by decide), if_neg (by decide)]
   exact ⟨ha, (fun w hw => by cases hw), List.Pairwise.nil, by simp, .inr (.inr (.inr ⟨.inl rfl, rol_b h, rfl⟩))⟩
 · rw [if_neg (by decide), if_neg (by decide), if_neg (by decide)]
   exact ⟨ha, (fun w hw => by cases hw), List.Pairwise.nil, by simp, .inr (.inr (.inr ⟨.inr rfl, rol_b h, rfl⟩))⟩
theorem many_mem {α : Type} {f : Int → α × Int} : ∀ (n : Nat) (x : Int), ∀ z ∈ (manyD f n x).1, ∃ y, z = (f y).1
 | 0, x, z, hz => by cases hz
 | n + 1, x, z, hz => by
  rcases List.mem_cons.1 hz with rfl | hz
  · exact ⟨_, rfl⟩
  · exact many_mem n _ z hz
/-- A policy that may be, of a shape. -/
structure PolB (s : Shp) (p : Pol) : Prop where
 fits : fitsD s = true
 stm : ∀ y ∈ p.1, StmB s y
 grow : ∀ r ∈ p.2.1, RolB s r
 shrink : ∀ r ∈ p.2.2.1, RolB s r
 asks : ∀ q ∈ p.2.2.2, QryB s q
 o0 : p.1 = sortO stmLt p.1
 o1 : p.2.1 = sortO rolLt p.2.1
 o2 : p.2.2.1 = sortO rolLt p.2.2.1
 n0 : (p.1.length : Int) ≤ s.stmts
 n1 : p.2.1.length ≤ 40
 n2 : p.2.2.1.length ≤ 40
 n3 : (p.2.2.2.length : Int) = s.asks
theorem pol_b (h : fitsD s = true) : PolB s (polD x s).1 := by
 have hp := fits_parts h
 unfold polD
 refine ⟨h, ?_, ?_, ?_, ?_, sort_same stmO _, sort_same rolO _, sort_same rolO _, ?_, ?_, ?_, ?_⟩
 · intro y hy
   have hy := (sortO_mem _ _).1 hy
   obtain ⟨z, hz, rfl⟩ := List.mem_map.1 hy
   obtain ⟨u, rfl⟩ := many_mem _ _ z hz
   rw [norm_b (stm_b h)]
   exact stm_b h
 · intro y hy
   obtain ⟨u, rfl⟩ := many_mem _ _ y ((sortO_mem _ _).1 hy)
   exact rol_b h
 · intro y hy
   obtain ⟨u, rfl⟩ := many_mem _ _ y ((sortO_mem _ _).1 hy)
   exact rol_b h
 · intro y hy
   obtain ⟨u, rfl⟩ := many_mem _ _ y hy
   exact qry_b h
 · have := sort_len stmLt ((manyD (fun x => stmD x s) s.stmts.toNat x).1.map normS)
   rw [List.length_map, manyD_len] at this
   show ((sortO stmLt _).length : Int) ≤ _
   omega
 · refine Nat.le_trans (sort_len rolLt _) ?_
   rw [manyD_len]
   omega
 · refine Nat.le_trans (sort_len rolLt _) ?_
   rw [manyD_len]
   omega
 · show (((manyD _ _ _).1.length : Nat) : Int) = _
   rw [manyD_len]
   omega
end
/-- The roles of a statement, of a query, of a policy. -/
def rolesS (x : Stm) : List Rol := x.1 :: ((if 2 ≤ x.2.1 ∧ x.2.1 ≤ 4 then [x.2.2.2.1] else []) ++ (if x.2.1 = 4 then [x.2.2.2.2.1] else []))
def rolesQ (q : Qry) : List Rol := q.2.1 :: (if q.1 = 5 ∨ q.1 = 6 then [q.2.2.1] else [])
def rolesL (p : Pol) : List Rol := p.1.flatMap rolesS ++ p.2.1 ++ p.2.2.1 ++ p.2.2.2.flatMap rolesQ
def prinsS (x : Stm) : List Str := if x.2.1 = 1 then [x.2.2.1] else []
def viasS (x : Stm) : List Str := if x.2.1 = 3 then [x.2.2.2.2.2] else []
/-- All that a policy names, as it comes. -/
def prinsA (p : Pol) : List Str := (rolesL p).map (·.1) ++ p.1.flatMap prinsS ++ p.2.2.2.flatMap (fun q => q.2.2.2)
def namesA (p : Pol) : List Str := (rolesL p).map (·.2) ++ p.1.flatMap viasS
theorem u8_lt {a b : Nat} (ha : a < 256) (hb : b < 256) : (([a.toUInt8] : Str) < [b.toUInt8]) ↔ a < b := by
 have e : ∀ n : Nat, n < 256 → n.toUInt8.toNat = n := fun n h => by simp [Nat.toUInt8]; omega
 constructor
 · intro h
   have h := List.cons_lt_cons_iff.1 h
   rcases h with h | h
   · have h := UInt8.lt_iff_toNat_lt.1 h
     rw [e a ha, e b hb] at h
     exact h
   · exact absurd h.2 (List.not_lt_nil _)
 · intro h
   refine List.cons_lt_cons_iff.2 (.inl ?_)
   rw [UInt8.lt_iff_toNat_lt, e a ha, e b hb]
   exact h
/-- A rising row of the first so many letters is no longer than these. -/
theorem lets_len {base n : Int} (hb : 0 ≤ base) (hn : base + n ≤ 256) : ∀ (l : List Str) (lo : Int), 0 ≤ lo → lo ≤ n → l.Pairwise (· < ·) → (∀ t ∈ l, ∃ i : Int, lo ≤ i ∧ i < n ∧ t = [(base + i).toNat.toUInt8]) → (l.length : Int) ≤ n - lo
 | [], lo, _, h, _, _ => by simp; omega
 | t :: l, lo, h0, h, hp, ht => by
  obtain ⟨i, h1, h2, rfl⟩ := ht t (List.mem_cons_self ..)
  have hp := List.pairwise_cons.1 hp
  have ih := lets_len hb hn l (i + 1) (by omega) (by omega) hp.2 (fun u hu => by
   obtain ⟨j, h3, h4, rfl⟩ := ht u (List.mem_cons_of_mem _ hu)
   have h5 := (u8_lt (by omega) (by omega)).1 (hp.1 _ hu)
   exact ⟨j, by omega, h4, rfl⟩)
  simp only [List.length_cons]
  omega
section
variable {s : Shp} {p : Pol}
theorem roles_b (h : PolB s p) : ∀ r ∈ rolesL p, RolB s r := by
 intro r hr
 unfold rolesL at hr
 simp only [List.mem_append] at hr
 rcases hr with ((hr | hr) | hr) | hr
 · obtain ⟨y, hy, hr⟩ := List.mem_flatMap.1 hr
   have hb := h.stm y hy
   unfold rolesS at hr
   rcases List.mem_cons.1 hr with rfl | hr
   · exact hb.1
   · rcases hb.2 with q | q | q | q
     · rw [q.1] at hr; cases hr
     · rw [q.1] at hr
       simp at hr
       rw [hr]; exact q.2.2.1
     · rw [q.1] at hr
       simp at hr
       rw [hr]; exact q.2.2.1
     · rw [q.1] at hr
       simp at hr
       rcases hr with hr | hr
       · rw [hr]; exact q.2.2.1
       · rw [hr]; exact q.2.2.2.1
 · exact h.grow r hr
 · exact h.shrink r hr
 · obtain ⟨y, hy, hr⟩ := List.mem_flatMap.1 hr
   have hb := h.asks y hy
   unfold rolesQ at hr
   rcases List.mem_cons.1 hr with rfl | hr
   · exact hb.1
   · split at hr
     · rename_i hk
       simp at hr
       rcases hb.2.2.2.2 with q | q | q | q
       · omega
       · omega
       · omega
       · rw [hr]; exact q.2.1
     · cases hr
theorem prins_few (h : PolB s p) : ((tabL (prinsA p)).length : Int) ≤ s.prins := by
 have hf := fits_parts h.fits
 have q := lets_len (base := 65) (n := s.prins) (by decide) (by omega) (tabL (prinsA p)) 0 (by omega) (by omega) (tab_rises _) (fun t ht => by
  rw [tab_mem] at ht
  unfold prinsA at ht
  simp only [List.mem_append] at ht
  rcases ht with (ht | ht) | ht
  · obtain ⟨r, hr, rfl⟩ := List.mem_map.1 ht
    exact (roles_b h r hr).1
  · obtain ⟨y, hy, ht⟩ := List.mem_flatMap.1 ht
    unfold prinsS at ht
    split at ht
    · rename_i hk
      simp at ht
      rw [ht]
      rcases (h.stm y hy).2 with q | q | q | q
      · exact q.2.1
      · omega
      · omega
      · omega
    · cases ht
  · obtain ⟨y, hy, ht⟩ := List.mem_flatMap.1 ht
    exact (h.asks y hy).2.1 t ht)
 omega
theorem names_few (h : PolB s p) : ((tabL (namesA p)).length : Int) ≤ s.links := by
 have hf := fits_parts h.fits
 have q := lets_len (base := 114) (n := s.links) (by decide) (by omega) (tabL (namesA p)) 0 (by omega) (by omega) (tab_rises _) (fun t ht => by
  rw [tab_mem] at ht
  unfold namesA at ht
  simp only [List.mem_append] at ht
  rcases ht with ht | ht
  · obtain ⟨r, hr, rfl⟩ := List.mem_map.1 ht
    exact (roles_b h r hr).2
  · obtain ⟨y, hy, ht⟩ := List.mem_flatMap.1 ht
    unfold viasS at ht
    split at ht
    · rename_i hk
      simp at ht
      rw [ht]
      rcases (h.stm y hy).2 with q | q | q | q
      · omega
      · omega
      · exact q.2.2.2.2
      · omega
    · cases ht)
 omega
end
end Go.Proofs.YtcdfpnlaklaafaaGreat
