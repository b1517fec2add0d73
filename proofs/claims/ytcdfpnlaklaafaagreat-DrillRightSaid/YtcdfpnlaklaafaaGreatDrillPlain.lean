/-
  What is drawn, by the rule, of a state: numbers, roles, statements, queries, policies. No program in sight.
-/
import Derived.Test.YtcdfpnlaklaafaaGreatMB
import Derived.Test.YtcdfpnlaklaafaaGreatDrill
set_option linter.unusedVariables false
set_option linter.unusedSimpArgs false
set_option linter.unnecessarySimpa false
namespace Go.Proofs.YtcdfpnlaklaafaaGreat
/-- A shape: how many of each there are. -/
structure Shp where
  prins : Int
  links : Int
  stmts : Int
  grow : Int
  shrink : Int
  asks : Int
def fitsD (s : Shp) : Bool := decide (1 ≤ s.prins ∧ s.prins ≤ 8 ∧ 1 ≤ s.links ∧ s.links ≤ 6 ∧ 0 ≤ s.stmts ∧ s.stmts ≤ 40 ∧ 0 ≤ s.grow ∧ s.grow ≤ 40 ∧ 0 ≤ s.shrink ∧ s.shrink ≤ 40 ∧ 0 ≤ s.asks ∧ s.asks ≤ 8)
/-- A state as it stands in memory. -/
def U64 (x : Int) : Prop := 0 ≤ x ∧ x ≤ 18446744073709551615
theorem lcg_u64 (x : Int) : U64 (lcg x) := u64_range _
/-- What is drawn below a number, and the state behind it. -/
def belD (x n : Int) : Int × Int := if n < 1 then (0, x) else (told (lcg x) % n, lcg x)
theorem belD_range {x n : Int} (h : 1 ≤ n) : 0 ≤ (belD x n).1 ∧ (belD x n).1 < n := by
  unfold belD
  rw [if_neg (by omega)]
  exact ⟨Int.emod_nonneg _ (by omega), Int.emod_lt_of_pos _ (by omega)⟩
theorem belD_u64 {x n : Int} (h : U64 x) : U64 (belD x n).2 := by
  unfold belD
  split
  · exact h
  · exact lcg_u64 x
/-- A principal's letter; a name's. -/
def prinD (x : Int) (s : Shp) : Str × Int := ([(65 + (belD x s.prins).1).toNat.toUInt8], (belD x s.prins).2)
def nameD (x : Int) (s : Shp) : Str × Int := ([(114 + (belD x s.links).1).toNat.toUInt8], (belD x s.links).2)
def rolD (x : Int) (s : Shp) : Rol × Int := (((prinD x s).1, (nameD (prinD x s).2 s).1), (nameD (prinD x s).2 s).2)
def noRol : Rol := ([], [])
def noStm : Stm := (noRol, 0, [], noRol, noRol, [])
/-- A statement in its normal form. -/
def normS (a : Stm) : Stm := if a.2.1 = 4 ∧ rolLt a.2.2.2.2.1 a.2.2.2.1 then (a.1, a.2.1, a.2.2.1, a.2.2.2.2.1, a.2.2.2.1, a.2.2.2.2.2) else a
/-- A statement as it is drawn, ahead of its normal form: behind the head and the kind. -/
def bodD (h : Rol) (k x : Int) (s : Shp) : Stm × Int :=
  if k = 1 then ((h, k, (prinD x s).1, noRol, noRol, []), (prinD x s).2)
  else if k = 2 then ((h, k, [], (rolD x s).1, noRol, []), (rolD x s).2)
  else if k = 3 then ((h, k, [], (rolD x s).1, noRol, (nameD (rolD x s).2 s).1), (nameD (rolD x s).2 s).2)
  else ((h, k, [], (rolD x s).1, (rolD (rolD x s).2 s).1, []), (rolD (rolD x s).2 s).2)
def stmD (x : Int) (s : Shp) : Stm × Int :=
  let h := rolD x s
  let k := belD h.2 4
  let b := bodD h.1 (1 + k.1) k.2 s
  (normS b.1, b.2)
/-- So many principals, one behind the other. -/
def whoD (s : Shp) : Nat → Int → List Str × Int
  | 0, x => ([], x)
  | n + 1, x => ((prinD x s).1 :: (whoD s n (prinD x s).2).1, (whoD s n (prinD x s).2).2)
/-- A query: kind, a, b, who. -/
abbrev Qry := Int × Rol × Rol × List Str
def noQry : Qry := (0, noRol, noRol, [])
def askD (x : Int) (s : Shp) : Qry × Int :=
  let k := belD x 6
  let a := rolD k.2 s
  if k.1 ≤ 1 then
    let n := belD a.2 2
    let w := whoD s (1 + n.1).toNat n.2
    ((1 + k.1, a.1, noRol, sortO (· < ·) w.1), w.2)
  else if k.1 = 2 then
    let n := belD a.2 3
    let w := whoD s n.1.toNat n.2
    ((1 + k.1, a.1, noRol, sortO (· < ·) w.1), w.2)
  else if k.1 = 3 then ((1 + k.1, a.1, noRol, []), a.2)
  else ((1 + k.1, a.1, (rolD a.2 s).1, []), (rolD a.2 s).2)
/-- So many of a kind, one behind the other. -/
def manyD {α : Type} (f : Int → α × Int) : Nat → Int → List α × Int
  | 0, x => ([], x)
  | n + 1, x => ((f x).1 :: (manyD f n (f x).2).1, (manyD f n (f x).2).2)
theorem manyD_succ {α : Type} (f : Int → α × Int) : ∀ (n : Nat) (x : Int), (manyD f (n + 1) x).1 = (manyD f n x).1 ++ [(f (manyD f n x).2).1] ∧ (manyD f (n + 1) x).2 = (f (manyD f n x).2).2
  | 0, x => ⟨rfl, rfl⟩
  | n + 1, x => by
    obtain ⟨h1, h2⟩ := manyD_succ f n (f x).2
    constructor
    · show (f x).1 :: (manyD f (n + 1) (f x).2).1 = ((f x).1 :: (manyD f n (f x).2).1) ++ _
      rw [h1]
      rfl
    · exact h2
theorem manyD_len {α : Type} (f : Int → α × Int) : ∀ (n : Nat) (x : Int), (manyD f n x).1.length = n
  | 0, x => rfl
  | n + 1, x => congrArg Nat.succ (manyD_len f n _)
/-- A policy: statements, grow, shrink, queries. -/
abbrev Pol := List Stm × List Rol × List Rol × List Qry
def noPol : Pol := ([], [], [], [])
def polD (x : Int) (s : Shp) : Pol × Int :=
  let a := manyD (fun x => stmD x s) s.stmts.toNat x
  let g := manyD (fun x => rolD x s) s.grow.toNat a.2
  let h := manyD (fun x => rolD x s) s.shrink.toNat g.2
  let q := manyD (fun x => askD x s) s.asks.toNat h.2
  ((sortO stmLt (a.1.map normS), sortO rolLt g.1, sortO rolLt h.1, q.1), q.2)
/-- What is drawn of the shape, or nothing. -/
def orD {α : Type} (s : Shp) (none : α) (f : Int → Shp → α × Int) (x : Int) : α × Int := if fitsD s then f x s else (none, x)
end Go.Proofs.YtcdfpnlaklaafaaGreat
