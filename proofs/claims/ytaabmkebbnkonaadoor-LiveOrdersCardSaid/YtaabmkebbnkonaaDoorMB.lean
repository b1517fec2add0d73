/-
  The lowest bit's place by the library's table; List of a family of sets.
-/
import Derived.Test.YtaabmkebbnkonaaDoorMA
import Derived.Shelf.Spec.TrailingZeros
import Derived.Deep.RegionWith
import Derived.Deep.RegionHeld3
set_option linter.unusedVariables false
set_option linter.unusedSimpArgs false
set_option linter.unnecessarySimpa false
namespace Go.Proofs.YtaabmkebbnkonaaDoor
open Go.ChangeShapes Go.WideShapes Go.ChangeAt Go.RowKit Go.Deep SetPlain

/-- The library's table is where it was laid. -/
def TabIn (w : World) : Prop := ∀ j, j < 64 → w.cell? ⟨0, j, none⟩ = some (.int .u8 (Lib.deBruijn64tab.getD j 0))
theorem TabIn.lt {w : World} (h : TabIn w) : 0 < w.heap.size := lt_of_cell (h 0 (by decide))
theorem TabIn.keeps {w w' : World} (h : TabIn w) {S : Nat → Prop} (hk : Keeps S w w') (hs : ¬ S 0) : TabIn w' := fun j hj => (hk.cell (p := ⟨0, j, none⟩) h.lt hs).trans (h j hj)
theorem TabIn.below {w w' : World} (h : TabIn w) {B : Nat} (hb : Below B w w') (hB : 0 < B) : TabIn w' := fun j hj => (hb.cell (p := ⟨0, j, none⟩) hB).trans (h j hj)

set_option maxRecDepth 10000 in
set_option maxHeartbeats 800000 in
theorem tz_core (x k idx : Nat) (w : World) (hx0 : ((x : Int) == 0) = false)
    (key : IntKind.u64.wrap (bits BinOp.and IntKind.u64 (x : Int) (IntKind.u64.wrap (-(x : Int))) * 285870213051353865) / 288230376151711744 = (idx : Int))
    (hi : idx < 64) (hk : k < 64) (hcell : w.cell? ⟨0, idx, none⟩ = some (.int .u8 k)) :
    Calls Tryd.prog 47 #[.int .u64 x] w fun e w' => e = .returned (.int .i64 k) ∧ w = w' := by
  go_enter Tryd.func47, Tryd.ntmps47
  go_wp2_with (simp only [key])
  go_ret
  exact ⟨rfl, rfl⟩
theorem tz_any (x : Nat) (hx : x < 18446744073709551616) (hx0 : x ≠ 0) (w : World) (hT : TabIn w) :
    Calls Tryd.prog 47 #[.int .u64 x] w fun e w' => e = .returned (.int .i64 (Lib.ctz 64 x : Nat)) ∧ w = w' := by
  obtain ⟨hlow, hk⟩ := Lib.lowest_bit 64 x hx0 hx
  obtain ⟨hi, htab⟩ := Lib.deBruijn64_at _ hk
  have hcell := hT _ hi
  rw [htab] at hcell
  exact tz_core x _ _ w (by simp; omega) (tz64_key x _ hx hx0 hlow) hi hk hcell

def intV (x : Nat) : Value := .int .i64 (x : Int)
def ListPost (l : List Nat) (w : World) (e : Ending) (w' : World) : Prop :=
  ∃ v, e = .returned v ∧ w'.ownsRow w.heap.size 3 1 v l.length (l.map intV) ∧ Below w.heap.size w w'
theorem lIntInfo : (Tryd.prog.info? 3).map (fun i => (i.zero, i.size, i.bytes)) = some (some (.int .i64 0), 1, 8) := by kernel_rfl

section
variable {w : World} {b bw : Nat} {rb : Nat → Nat} {R C : Nat} {In : Nat → Nat → Bool} {tot : Nat}
set_option maxRecDepth 100000 in
set_option maxHeartbeats 1600000 in
theorem flist_spec (h : FamMem w b bw rb R C In tot) (hT : TabIn w) (i : Int) : Calls Tryd.prog 31 #[.pointer (some ⟨b, 0, none⟩), .int .i64 i] w (ListPost (listTo (rowP R In i) C) w) := by
  have HR := Lib.hid (frow_spec h i)
  have hat := h.at_ i
  have hC := h.hC
  have hKC := wordsOf_le C
  have hK16 : wordsOf C ≤ 16 := by unfold wordsOf; omega
  have ho := h.rowOut i
  generalize rowV w bw R i = v at HR hat
  generalize rowP R In i = p at hat ho ⊢
  generalize wordsOf C = K at hat hKC hK16
  have hres : listTo p (64 * K) = listTo p C := by
    obtain ⟨d, hd⟩ : ∃ d, 64 * K = C + d := ⟨64 * K - C, by omega⟩
    rw [hd]; exact listTo_none p C d (fun j _ => ho _ (by omega))
  rw [← hres]
  clear h hres
  obtain ⟨i0, hi, hz0, hz1, hz2⟩ := info_parts lIntInfo
  rcases hat with ⟨rfl, hp⟩ | ⟨g, cp, rfl, hcp, hg, hcell⟩
  · have hz : listTo p (64 * K) = [] := by
      have := listTo_none p 0 (64 * K) (fun j _ => hp _)
      rw [Nat.zero_add] at this
      exact this
    rw [hz]
    clear hz hp ho hKC
    go_enter Tryd.func31, Tryd.ntmps31
    go_wp2_with fail
    refine HR.out.mono ?_
    rintro e w' ⟨rfl, rfl⟩
    go_wp2_with fail
    refine wp_loop_rounds 1 ?_
    rw [rounds_succ]
    go_wp2
    go_ret
    exact ⟨_, rfl, World.ownsRow_nil _ _ _ _, Below.refl _ _⟩
  · have HC := Lib.hid hcell
    have HT := Lib.hid hT
    clear hcell ho hKC hT
    go_enter Tryd.func31, Tryd.ntmps31
    go_wp2_with fail
    refine HR.out.mono ?_
    rintro e w' ⟨rfl, rfl⟩
    clear HR
    go_wp2_with fail
    go_loopg [4, 11] K (fun gh s4 s11 wr => ∃ (k : Nat) (v : Value), k ≤ K ∧ gh = K - k ∧ s11 = .int .i64 k ∧ s4 = v ∧ Hid (wr.ownsRow w.heap.size 3 1 v (listTo p (64 * k)).length ((listTo p (64 * k)).map intV)) ∧ Hid (Below w.heap.size w wr))
    case atStart => exact ⟨0, _, Nat.zero_le _, rfl, rfl, rfl, World.ownsRow_nil _ _ _ _, Below.refl _ _⟩
    case round =>
      obtain ⟨k, v, hk, rfl, rfl, rfl, hown, hb⟩ := hrel
      by_cases hlt : k < K
      · have cw := HC.out k hlt
        rw [← hb.out.cell (p := ⟨g, _, none⟩) hg] at cw
        have hkI : (k : Int) < (K : Int) := by omega
        have hL0 := Lib.hid (WLeft.start p k)
        generalize hX0 : wordOf p k = X0 at cw hL0
        clear hX0
        go_wp2_with fail
        clear cw
        go_loopg [4, 6] 64 (fun gh s4 s6 wq => ∃ (t X : Nat) (v : Value), t ≤ 64 ∧ gh = 64 - t ∧ s6 = .int .u64 X ∧ s4 = v ∧ Hid (WLeft p k t X) ∧ Hid (wq.ownsRow w.heap.size 3 1 v (listTo p (64 * k + t)).length ((listTo p (64 * k + t)).map intV)) ∧ Hid (Below w.heap.size w wq))
        case atStart => exact ⟨0, X0, _, by omega, rfl, rfl, rfl, hL0.out, hown.out, hb.out⟩
        case round =>
          clear hown hb hL0
          obtain ⟨t, X, v', ht, rfl, rfl, rfl, hL, hown, hb⟩ := hrel
          by_cases hX : X = 0
          · subst hX
            have hd := Lib.hid hL.out.done
            rw [hd.out] at hown
            clear hd hL
            go_wp2_with fail
            go_roundg (K - (k + 1))
            case measure => omega
            case rel => exact ⟨k + 1, _, by omega, rfl, by go_num, rfl, hown.out, hb.out⟩
          · obtain ⟨hn, hl, htm, hm⟩ := hL.out.next hX
            have hXl := hL.out.1
            have HZ := Lib.hid (tz_any X hXl hX _ (HT.out.below hb.out (HT.out.lt)))
            have hand := u64_and_nat X (X - 1) hXl (by omega)
            have hX1 : ((X : Int) == 0) = false := by simpa using hX
            have hX2 : ((X : Int) != 0) = true := by simpa using hX
            have hsub : IntKind.u64.wrap ((X : Int) - 1) = ((X - 1 : Nat) : Int) := (IntWalk.u64_in _ (by omega)).trans (by omega)
            have hlen : (listTo p (64 * k + t)).length ≤ 64 * k + t := by rw [listTo_len]; exact cnt_le _ _
            have HN := Lib.hid hn; have HL := Lib.hid hl
            generalize Lib.ctz 64 X = m at HN HL HZ htm hm
            generalize X &&& (X - 1) = Y at HN hand
            generalize hx1 : X - 1 = X' at hand hsub
            have hmI : (m : Int) < 64 := by omega
            have hk16 : (k : Int) < 16 := by omega
            have hsum : (k : Int) * 64 + (m : Int) = ((64 * k + m : Nat) : Int) := by omega
            have HSum := Lib.hid hsum
            have how := hown.out
            clear hx1 hL hn hl hX hsum hXl
            go_wp2_with fail
            refine HZ.out.mono ?_
            rintro e w2 ⟨rfl, rfl⟩
            have hzs := hb.out.size
            have hob := Lib.hid (own_block how)
            go_wp2_with (at_builtin; refine wpList_append_own _ rfl _ _ 43 rfl w.heap.size 3 i0 _ 1 8 Tryd.underlying43 hi hz0 hz1 hz2 rfl (by decide) _ _ _ rfl (how.alloc _) ⟨wr.heap.size, 0, none⟩ 1 1 [.int .i64 ((k : Int) * 64 + (m : Int))] rfl rfl (cells_new wr _ _) (by intro u hu; simp only [List.mem_cons, List.not_mem_nil, or_false] at hu; subst hu; rfl) (by unfold maxLen; omega) (by omega) (by simp; omega) ?_)
            intro v2 w2 hown2 hgrow _
            have hnew : Hid (w2.ownsRow w.heap.size 3 1 v2 (listTo p (64 * k + (m + 1))).length ((listTo p (64 * k + (m + 1))).map intV)) := by
              show w2.ownsRow _ _ _ _ _ _
              rw [HL.out, List.length_append, List.map_append]
              have e : [Value.int .i64 ((k : Int) * 64 + (m : Int))] = [64 * k + m].map intV := by
                rw [HSum.out]; rfl
              rw [← e]
              exact hown2
            have hbn : Hid (Below w.heap.size w w2) := (hb.out.alloc hzs _).trans ((keeps_grown hgrow).below (by simp; omega) (fun k hk e => by have := hob.out k e; omega))
            clear hown2 hgrow how hown hb hzs hob HZ
            go_wp2_with fail
            go_roundg (64 - (m + 1))
            case measure => omega
            case rel => exact ⟨m + 1, Y, _, by omega, rfl, rfl, rfl, HN.out, hnew.out, hbn.out⟩
      · obtain rfl : k = K := by omega
        go_wp2
        go_ret
        exact ⟨_, rfl, hown.out, hb.out⟩
end
end Go.Proofs.YtaabmkebbnkonaaDoor
/-
  Rules and what follows of them: the maker of a model as plain steps. No program in sight.
-/
set_option linter.unusedVariables false
set_option linter.unusedSimpArgs false
set_option linter.unnecessarySimpa false
namespace Go.Proofs.YtaabmkebbnkonaaDoor
open Go.ChangeShapes Go.WideShapes Go.ChangeAt Go.RowKit Go.Deep SetPlain

def roleB (p k : Int) (i : Int) : Bool := decide (0 ≤ i ∧ i < p * k)
/-- May a rule be? -/
def rightB (p k : Int) (r : Rl) : Bool :=
  decide (0 ≤ p ∧ 0 ≤ k ∧ p ≤ 1000 ∧ k ≤ 1000) && (roleB p k r.head &&
    (if r.kind = 1 then decide (r.a = 0 ∧ r.b = 0 ∧ r.via = 0) && decide (0 ≤ r.who ∧ r.who < p)
     else if r.kind = 4 then roleB p k r.b && (decide (r.who = 0 ∧ r.via = 0) && roleB p k r.a)
     else if r.kind = 2 then decide (r.who = 0 ∧ r.b = 0 ∧ r.via = 0) && roleB p k r.a
     else if r.kind = 3 then decide (r.who = 0 ∧ r.b = 0) && (roleB p k r.a && decide (0 ≤ r.via ∧ r.via < k))
     else false))
/-- What a rule that may be is like. -/
theorem right_iff {P K : Nat} {r : Rl} (h : rightB P K r = true) :
    (0 ≤ r.head ∧ r.head < ((P * K : Nat) : Int)) ∧
    ((r.kind = 1 ∧ 0 ≤ r.who ∧ r.who < P) ∨ (r.kind = 2 ∧ 0 ≤ r.a ∧ r.a < ((P * K : Nat) : Int)) ∨ (r.kind = 3 ∧ 0 ≤ r.a ∧ r.a < ((P * K : Nat) : Int) ∧ 0 ≤ r.via ∧ r.via < K) ∨
      (r.kind = 4 ∧ 0 ≤ r.a ∧ r.a < ((P * K : Nat) : Int) ∧ 0 ≤ r.b ∧ r.b < ((P * K : Nat) : Int))) := by
  unfold rightB roleB at h
  rw [Bool.and_eq_true, Bool.and_eq_true] at h
  obtain ⟨_, h1, h2⟩ := h
  have e : (P : Int) * (K : Int) = ((P * K : Nat) : Int) := by simp
  rw [e] at h1 h2
  refine ⟨by simpa using h1, ?_⟩
  split at h2
  · simp at h2; exact .inl ⟨by assumption, h2.2.1, h2.2.2⟩
  split at h2
  · simp at h2; exact .inr (.inr (.inr ⟨by assumption, by simpa using h2.2.2.1, by simpa using h2.2.2.2, by simpa using h2.1.1, by simpa using h2.1.2⟩))
  split at h2
  · simp at h2; exact .inr (.inl ⟨by assumption, by simpa using h2.2.1, by simpa using h2.2.2⟩)
  split at h2
  · simp at h2; exact .inr (.inr (.inl ⟨by assumption, by simpa using h2.2.1.1, by simpa using h2.2.1.2, h2.2.2.1, h2.2.2.2⟩))
  · cases h2

/-- A maker's state: who is in, how many facts, how many steps, what is to be looked at yet. -/
structure St where
  In : Nat → Nat → Bool
  tot : Nat
  steps : Nat
  q : List (Nat × Nat)
def St.tick (s : St) : St := ⟨s.In, s.tot, s.steps + 1, s.q⟩
def St.add (N P : Nat) (s : St) (role who : Nat) : St :=
  if addB N P s.In role who = true then ⟨addIn N P s.In role who, addTot N P s.In role who s.tot, s.steps + 1, s.q ++ [(role, who)]⟩ else s.tick
def St.addAll (N P : Nat) (dst : Nat) : List Nat → St → St
  | [], s => s
  | x :: l, s => St.addAll N P dst l (s.add N P dst x)
def St.all (N P : Nat) (s : St) (src dst : Nat) : St := St.addAll N P dst (listTo (s.In src) P) s
/-- One rule by one role's fact. -/
def St.by1 (N P K : Nat) (f : Nat × Nat) (s : St) (r : Rl) : St :=
  if r.kind = 2 then s.tick.add N P r.head.toNat f.2
  else if r.kind = 3 then s.tick.all N P (f.2 * K + r.via.toNat) r.head.toNat
  else if r.kind = 4 then if s.In r.a.toNat f.2 && s.In r.b.toNat f.2 then s.tick.add N P r.head.toNat f.2 else s.tick
  else s.tick
def St.via1 (N P K : Nat) (f : Nat × Nat) (s : St) (r : Rl) : St :=
  if s.In r.a.toNat (f.1 / K) then s.tick.add N P r.head.toNat f.2 else s.tick
def St.byL (N P K : Nat) (f : Nat × Nat) : List Rl → St → St
  | [], s => s
  | r :: l, s => St.byL N P K f l (s.by1 N P K f r)
def St.viaL (N P K : Nat) (f : Nat × Nat) : List Rl → St → St
  | [], s => s
  | r :: l, s => St.viaL N P K f l (s.via1 N P K f r)
def St.look (N P K : Nat) (L : Nat → List Rl) (s : St) (f : Nat × Nat) : St := St.viaL N P K f (L (N + f.1 % K)) (St.byL N P K f (L f.1) s)
def St.put (N P : Nat) (s : St) (r : Rl) : St := if r.kind = 1 then s.tick.add N P r.head.toNat r.who.toNat else s.tick
def St.putL (N P : Nat) : List Rl → St → St
  | [], s => s
  | r :: l, s => St.putL N P l (s.put N P r)
def St.zero : St := ⟨fun _ _ => false, 0, 0, []⟩
/-- Is a rule kept in a row? -/
def keepB (N : Nat) (r : Rl) (i : Nat) : Bool :=
  if i < N then (decide (r.kind = 2 ∨ r.kind = 3 ∨ r.kind = 4) && decide (r.a = i)) || (decide (r.kind = 4) && decide (r.b = i)) else decide (r.kind = 3) && decide (r.via + N = i)
def putRow (N : Nat) (r : Rl) (L : Nat → List Rl) : Nat → List Rl := fun i => if keepB N r i = true then L i ++ [r] else L i
def keptL (N : Nat) (rs : List Rl) : Nat → List Rl := fun i => rs.filter (fun r => keepB N r i)
theorem keptL_snoc (N : Nat) (rs : List Rl) (r : Rl) : keptL N (rs ++ [r]) = putRow N r (keptL N rs) := by
  funext i
  unfold keptL putRow
  rw [List.filter_append]
  by_cases h : keepB N r i = true
  · rw [if_pos h]; simp [h]
  · rw [if_neg h]; simp [h]
theorem keptL_len (N : Nat) (rs : List Rl) (i : Nat) : (keptL N rs i).length ≤ rs.length := List.length_filter_le _ _

/-- What follows of rules. -/
inductive Der (K : Nat) (rs : List Rl) : Nat → Nat → Prop
  | mem (r : Rl) : r ∈ rs → r.kind = 1 → Der K rs r.head.toNat r.who.toNat
  | incl (r : Rl) (c : Nat) : r ∈ rs → r.kind = 2 → Der K rs r.a.toNat c → Der K rs r.head.toNat c
  | link (r : Rl) (x c : Nat) : r ∈ rs → r.kind = 3 → Der K rs r.a.toNat x → Der K rs (x * K + r.via.toNat) c → Der K rs r.head.toNat c
  | both (r : Rl) (c : Nat) : r ∈ rs → r.kind = 4 → Der K rs r.a.toNat c → Der K rs r.b.toNat c → Der K rs r.head.toNat c
theorem Der.mono {K : Nat} {rs ss : List Rl} (h : ∀ r, r ∈ rs → r ∈ ss) {i c : Nat} (d : Der K rs i c) : Der K ss i c := by
  induction d with
  | mem r h1 h2 => exact .mem r (h r h1) h2
  | incl r c h1 h2 _ i1 => exact .incl r c (h r h1) h2 i1
  | link r x c h1 h2 _ _ i1 i2 => exact .link r x c (h r h1) h2 i1 i2
  | both r c h1 h2 _ _ i1 i2 => exact .both r c (h r h1) h2 i1 i2

/-- One state behind another. -/
structure Ext (s t : St) : Prop where
  steps : s.steps ≤ t.steps
  tot : s.tot ≤ t.tot
  len : s.q.length ≤ t.q.length
  bal : s.tot + t.q.length = t.tot + s.q.length
  mono : ∀ i c, s.In i c = true → t.In i c = true
  new : ∀ i c, t.In i c = true → s.In i c = true ∨ (i, c) ∈ t.q
  sub : ∀ f, f ∈ s.q → f ∈ t.q
theorem Ext.refl (s : St) : Ext s s := ⟨Nat.le_refl _, Nat.le_refl _, Nat.le_refl _, rfl, fun _ _ h => h, fun _ _ h => .inl h, fun _ h => h⟩
theorem Ext.trans {s t u : St} (h : Ext s t) (k : Ext t u) : Ext s u :=
  ⟨Nat.le_trans h.steps k.steps, Nat.le_trans h.tot k.tot, Nat.le_trans h.len k.len, by have := h.bal; have := k.bal; omega, fun i c x => k.mono i c (h.mono i c x),
    fun i c x => (k.new i c x).elim (fun y => (h.new i c y).imp id (k.sub _)) .inr, fun f x => k.sub f (h.sub f x)⟩
theorem Ext.tick (s : St) : Ext s s.tick := ⟨Nat.le_succ _, Nat.le_refl _, Nat.le_refl _, rfl, fun _ _ h => h, fun _ _ h => .inl h, fun _ h => h⟩
/-- All in a state follows, lies where it may, and is counted. -/
structure Good (N P K : Nat) (rs : List Rl) (s : St) : Prop where
  snd : ∀ i c, s.In i c = true → Der K rs i c
  out : ∀ i c, s.In i c = true → i < N ∧ c < P
  que : ∀ f, f ∈ s.q → s.In f.1 f.2 = true
  tot : s.tot = sumTo (fun a => cnt (s.In a) P) N
section
variable {N P K : Nat} {rs : List Rl} {s : St}
theorem Good.tick (h : Good N P K rs s) : Good N P K rs s.tick := ⟨h.snd, h.out, h.que, h.tot⟩
theorem Good.zero : Good N P K rs St.zero := ⟨fun _ _ h => (by cases h), fun _ _ h => (by cases h), fun _ h => (by cases h), by
  show 0 = sumTo (fun a => cnt (fun _ => false) P) N
  have : ∀ n, sumTo (fun a => cnt (fun _ => false) P) n = 0 := fun n => by
    induction n with
    | zero => rfl
    | succ n ih => show sumTo _ n + cnt (fun _ => false) P = 0; rw [ih, cnt_none _ _ (fun _ _ => rfl)]
  exact (this N).symm⟩
theorem Good.tot_le (h : Good N P K rs s) : s.tot ≤ P * N := by
  rw [h.tot]
  exact sumTo_le (fun a => cnt_le _ _) N
theorem St.add_good (h : Good N P K rs s) {role who : Nat} (hd : Der K rs role who) :
    Good N P K rs (s.add N P role who) ∧ Ext s (s.add N P role who) ∧ (s.add N P role who).steps = s.steps + 1 ∧ (role < N → who < P → (s.add N P role who).In role who = true) := by
  unfold St.add
  cases hb : addB N P s.In role who with
  | true =>
    rw [if_pos rfl]
    obtain ⟨a, m, ha, hm, h1, h2, h3⟩ := addB_iff.1 hb
    obtain rfl : role = a := by omega
    obtain rfl : who = m := by omega
    have hin : ∀ i c, addIn N P s.In role who i c = true ↔ s.In i c = true ∨ (i, c) = (role, who) := fun i c => by
      unfold addIn
      rw [if_pos hb]
      show (if i = role then upd (s.In i) who else s.In i) c = true ↔ _
      by_cases hi : i = role
      · subst hi
        rw [if_pos rfl]
        show (decide (c = who) || s.In i c) = true ↔ _
        simp [or_comm]
      · rw [if_neg hi]; simp [hi]
    have ht : addTot N P s.In role who s.tot = s.tot + 1 := by unfold addTot; rw [if_pos hb]
    refine ⟨⟨fun i c x => ?_, fun i c x => ?_, fun f x => ?_, addTot_sum h.tot⟩, ⟨Nat.le_succ _, ?_, ?_, ?_, fun i c x => (hin i c).2 (.inl x), fun i c x => ?_, fun f x => List.mem_append_left _ x⟩, rfl, fun _ _ => (hin role who).2 (.inr rfl)⟩
    · rcases (hin i c).1 x with y | y
      · exact h.snd i c y
      · cases y; exact hd
    · rcases (hin i c).1 x with y | y
      · exact h.out i c y
      · cases y; exact ⟨h1, h2⟩
    · rcases List.mem_append.1 x with y | y
      · exact (hin _ _).2 (.inl (h.que f y))
      · rw [List.mem_singleton] at y; subst y; exact (hin _ _).2 (.inr rfl)
    · show s.tot ≤ addTot N P s.In role who s.tot; omega
    · show s.q.length ≤ (s.q ++ [(role, who)]).length; simp
    · show s.tot + (s.q ++ [(role, who)]).length = addTot N P s.In role who s.tot + s.q.length
      rw [ht]; simp; omega
    · rcases (hin i c).1 x with y | y
      · exact .inl y
      · rw [y]; exact .inr (List.mem_append_right _ (List.mem_singleton.2 rfl))
  | false =>
    rw [if_neg (by simp)]
    refine ⟨h.tick, Ext.tick s, rfl, fun h1 h2 => ?_⟩
    show s.In role who = true
    cases hi : s.In role who with
    | true => rfl
    | false =>
      have := (addB_iff (R := N) (C := P) (In := s.In) (i := role) (c := who)).2 ⟨role, who, rfl, rfl, h1, h2, hi⟩
      rw [this] at hb; cases hb
theorem St.addAll_good {dst : Nat} : ∀ (l : List Nat) (s : St), Good N P K rs s → (∀ x, x ∈ l → Der K rs dst x) →
    Good N P K rs (St.addAll N P dst l s) ∧ Ext s (St.addAll N P dst l s) ∧ (St.addAll N P dst l s).steps = s.steps + l.length ∧ (∀ x, x ∈ l → dst < N → x < P → (St.addAll N P dst l s).In dst x = true)
  | [], s, h, _ => ⟨h, Ext.refl s, rfl, fun x hx => (by cases hx)⟩
  | y :: l, s, h, hd => by
    obtain ⟨g1, e1, t1, i1⟩ := St.add_good h (hd y (List.mem_cons_self ..))
    obtain ⟨g2, e2, t2, i2⟩ := St.addAll_good l _ g1 (fun x hx => hd x (List.mem_cons_of_mem _ hx))
    refine ⟨g2, e1.trans e2, ?_, fun x hx h1 h2 => ?_⟩
    · show (St.addAll N P dst l (s.add N P dst y)).steps = _
      rw [t2, t1, List.length_cons]; omega
    · rcases List.mem_cons.1 hx with rfl | hx
      · exact e2.mono _ _ (i1 h1 h2)
      · exact i2 x hx h1 h2
theorem listTo_mem {p : Nat → Bool} {x : Nat} : ∀ n, x < n → p x = true → x ∈ listTo p n
  | 0, h, _ => absurd h (Nat.not_lt_zero _)
  | n + 1, h, hp => by
    unfold listTo
    rcases Nat.lt_or_ge x n with h1 | h1
    · have := listTo_mem n h1 hp
      split
      · exact List.mem_append_left _ this
      · first | exact this | (simp; exact this)
    · obtain rfl : x = n := by omega
      simp [hp]
theorem nat_of {a : Int} {n : Nat} (h0 : 0 ≤ a) (h1 : a < n) : a.toNat < n := by omega
theorem St.all_good (h : Good N P K rs s) {src dst : Nat} (hd : ∀ x, Der K rs src x → Der K rs dst x) :
    Good N P K rs (s.all N P src dst) ∧ Ext s (s.all N P src dst) ∧ (s.all N P src dst).steps ≤ s.steps + P ∧ (dst < N → ∀ x, s.In src x = true → (s.all N P src dst).In dst x = true) := by
  obtain ⟨g, e, t, i⟩ := St.addAll_good (dst := dst) (listTo (s.In src) P) s h (fun x hx => hd x (h.snd _ _ (listTo_lt _ _ x hx).2))
  refine ⟨g, e, ?_, fun h1 x hx => ?_⟩
  · show (St.addAll N P dst (listTo (s.In src) P) s).steps ≤ _
    rw [t, listTo_len]
    have := cnt_le (s.In src) P
    omega
  · have := (h.out _ _ hx).2
    exact i x (listTo_mem P this hx) h1 this
/-- What one rule of a role's row must have brought. -/
def Did1 (K : Nat) (f : Nat × Nat) (s t : St) (r : Rl) : Prop :=
  (r.kind = 2 → t.In r.head.toNat f.2 = true) ∧ (r.kind = 3 → ∀ c, s.In (f.2 * K + r.via.toNat) c = true → t.In r.head.toNat c = true) ∧
  (r.kind = 4 → s.In r.a.toNat f.2 = true → s.In r.b.toNat f.2 = true → t.In r.head.toNat f.2 = true)
def Did2 (K : Nat) (f : Nat × Nat) (s t : St) (r : Rl) : Prop := s.In r.a.toNat (f.1 / K) = true → t.In r.head.toNat f.2 = true
theorem keep_by {N : Nat} {r : Rl} {i : Nat} (hi : i < N) (h : keepB N r i = true) : (r.kind = 2 ∧ r.a = i) ∨ (r.kind = 3 ∧ r.a = i) ∨ (r.kind = 4 ∧ (r.a = i ∨ r.b = i)) := by
  unfold keepB at h
  rw [if_pos hi] at h
  simp at h
  omega
theorem keep_via {N : Nat} {r : Rl} {v : Nat} (h : keepB N r (N + v) = true) : r.kind = 3 ∧ r.via = v := by
  unfold keepB at h
  rw [if_neg (by omega)] at h
  simp at h
  omega
theorem St.by1_good {P : Nat} (hN : N = P * K) (h : Good N P K rs s) {f : Nat × Nat} (hf1 : f.1 < N) (hf2 : f.2 < P) (hf : s.In f.1 f.2 = true) {r : Rl} (hr : r ∈ rs) (hR : rightB P K r = true) (hk : keepB N r f.1 = true) :
    Good N P K rs (s.by1 N P K f r) ∧ Ext s (s.by1 N P K f r) ∧ (s.by1 N P K f r).steps ≤ s.steps + 1 + P ∧ Did1 K f s (s.by1 N P K f r) r := by
  obtain ⟨⟨hh0, hh1⟩, _⟩ := right_iff hR
  rw [← hN] at hh1
  have hh : r.head.toNat < N := by omega
  have hd := h.snd _ _ hf
  have hP1 : 1 ≤ P := by omega
  unfold St.by1
  rcases keep_by hf1 hk with ⟨k2, ha⟩ | ⟨k3, ha⟩ | ⟨k4, ha⟩
  · rw [if_pos k2]
    obtain ⟨g, e, t, i⟩ := St.add_good (s := s.tick) h.tick (role := r.head.toNat) (who := f.2) (.incl r f.2 hr k2 (by rw [ha]; exact hd))
    refine ⟨g, (Ext.tick s).trans e, ?_, fun _ => i hh hf2, fun k => absurd k (by omega), fun k => absurd k (by omega)⟩
    rw [t]; show s.steps + 1 + 1 ≤ _; omega
  · rw [if_neg (by omega), if_pos k3]
    obtain ⟨g, e, t, i⟩ := St.all_good (s := s.tick) h.tick (src := f.2 * K + r.via.toNat) (dst := r.head.toNat) (fun x hx => .link r f.2 x hr k3 (by rw [ha]; exact hd) hx)
    exact ⟨g, (Ext.tick s).trans e, t, fun k => absurd k (by omega), fun _ c hc => i hh c hc, fun k => absurd k (by omega)⟩
  · rw [if_neg (by omega), if_neg (by omega), if_pos k4]
    cases hab : s.In r.a.toNat f.2 && s.In r.b.toNat f.2 with
    | true =>
      rw [if_pos rfl]
      rw [Bool.and_eq_true] at hab
      obtain ⟨g, e, t, i⟩ := St.add_good (s := s.tick) h.tick (role := r.head.toNat) (who := f.2) (.both r f.2 hr k4 (h.snd _ _ hab.1) (h.snd _ _ hab.2))
      refine ⟨g, (Ext.tick s).trans e, ?_, fun k => absurd k (by omega), fun k => absurd k (by omega), fun _ _ _ => i hh hf2⟩
      rw [t]; show s.steps + 1 + 1 ≤ _; omega
    | false =>
      rw [if_neg (by simp)]
      refine ⟨h.tick, Ext.tick s, by show s.steps + 1 ≤ _; omega, fun k => absurd k (by omega), fun k => absurd k (by omega), fun _ h1 h2 => ?_⟩
      rw [h1, h2] at hab; cases hab
theorem Did1.up {f : Nat × Nat} {s s' t t' : St} {r : Rl} (h : Did1 K f s t r) (e : Ext s' s) (e2 : Ext t t') : Did1 K f s' t' r :=
  ⟨fun k => e2.mono _ _ (h.1 k), fun k c hc => e2.mono _ _ (h.2.1 k c (e.mono _ _ hc)), fun k h1 h2 => e2.mono _ _ (h.2.2 k (e.mono _ _ h1) (e.mono _ _ h2))⟩
theorem St.byL_good {P : Nat} (hN : N = P * K) {f : Nat × Nat} (hf1 : f.1 < N) (hf2 : f.2 < P) : ∀ (l : List Rl) (s : St), Good N P K rs s → s.In f.1 f.2 = true → (∀ r, r ∈ l → r ∈ rs ∧ rightB P K r = true ∧ keepB N r f.1 = true) →
    Good N P K rs (St.byL N P K f l s) ∧ Ext s (St.byL N P K f l s) ∧ (St.byL N P K f l s).steps ≤ s.steps + l.length * (1 + P) ∧ (∀ r, r ∈ l → Did1 K f s (St.byL N P K f l s) r)
  | [], s, h, _, _ => ⟨h, Ext.refl s, Nat.le_add_right _ _, fun r hr => (by cases hr)⟩
  | r :: l, s, h, hf, hl => by
    obtain ⟨m1, m2, m3⟩ := hl r (List.mem_cons_self ..)
    obtain ⟨g1, e1, t1, d1⟩ := St.by1_good hN h hf1 hf2 hf m1 m2 m3
    obtain ⟨g2, e2, t2, d2⟩ := St.byL_good hN hf1 hf2 l _ g1 (e1.mono _ _ hf) (fun x hx => hl x (List.mem_cons_of_mem _ hx))
    refine ⟨g2, e1.trans e2, ?_, fun x hx => ?_⟩
    · show (St.byL N P K f l (s.by1 N P K f r)).steps ≤ _
      rw [List.length_cons, Nat.succ_mul]; omega
    · rcases List.mem_cons.1 hx with rfl | hx
      · exact d1.up (Ext.refl _) e2
      · exact (d2 x hx).up e1 (Ext.refl _)
theorem St.via1_good {P : Nat} (hN : N = P * K) (hK : 0 < K) (h : Good N P K rs s) {f : Nat × Nat} (hf1 : f.1 < N) (hf2 : f.2 < P) (hf : s.In f.1 f.2 = true) {r : Rl} (hr : r ∈ rs) (hR : rightB P K r = true) (hk : keepB N r (N + f.1 % K) = true) :
    Good N P K rs (s.via1 N P K f r) ∧ Ext s (s.via1 N P K f r) ∧ (s.via1 N P K f r).steps ≤ s.steps + 2 ∧ Did2 K f s (s.via1 N P K f r) r := by
  obtain ⟨⟨hh0, hh1⟩, _⟩ := right_iff hR
  rw [← hN] at hh1
  have hh : r.head.toNat < N := by omega
  have hd := h.snd _ _ hf
  obtain ⟨k3, hv⟩ := keep_via hk
  have hfd : f.1 / K * K + r.via.toNat = f.1 := by
    rw [hv, Int.toNat_natCast, Nat.mul_comm]; exact Nat.div_add_mod f.1 K
  unfold St.via1
  cases ha : s.In r.a.toNat (f.1 / K) with
  | true =>
    rw [if_pos rfl]
    obtain ⟨g, e, t, i⟩ := St.add_good (s := s.tick) h.tick (role := r.head.toNat) (who := f.2) (.link r (f.1 / K) f.2 hr k3 (h.snd _ _ ha) (by rw [hfd]; exact hd))
    exact ⟨g, (Ext.tick s).trans e, by rw [t]; exact Nat.le_refl _, fun _ => i hh hf2⟩
  | false =>
    rw [if_neg (by simp)]
    exact ⟨h.tick, Ext.tick s, by show s.steps + 1 ≤ _; omega, fun k => by rw [k] at ha; cases ha⟩
theorem St.viaL_good {P : Nat} (hN : N = P * K) (hK : 0 < K) {f : Nat × Nat} (hf1 : f.1 < N) (hf2 : f.2 < P) : ∀ (l : List Rl) (s : St), Good N P K rs s → s.In f.1 f.2 = true → (∀ r, r ∈ l → r ∈ rs ∧ rightB P K r = true ∧ keepB N r (N + f.1 % K) = true) →
    Good N P K rs (St.viaL N P K f l s) ∧ Ext s (St.viaL N P K f l s) ∧ (St.viaL N P K f l s).steps ≤ s.steps + l.length * 2 ∧ (∀ r, r ∈ l → Did2 K f s (St.viaL N P K f l s) r)
  | [], s, h, _, _ => ⟨h, Ext.refl s, Nat.le_add_right _ _, fun r hr => (by cases hr)⟩
  | r :: l, s, h, hf, hl => by
    obtain ⟨m1, m2, m3⟩ := hl r (List.mem_cons_self ..)
    obtain ⟨g1, e1, t1, d1⟩ := St.via1_good hN hK h hf1 hf2 hf m1 m2 m3
    obtain ⟨g2, e2, t2, d2⟩ := St.viaL_good hN hK hf1 hf2 l _ g1 (e1.mono _ _ hf) (fun x hx => hl x (List.mem_cons_of_mem _ hx))
    refine ⟨g2, e1.trans e2, ?_, fun x hx => ?_⟩
    · show (St.viaL N P K f l (s.via1 N P K f r)).steps ≤ _
      rw [List.length_cons, Nat.succ_mul]; omega
    · rcases List.mem_cons.1 hx with rfl | hx
      · exact fun k => e2.mono _ _ (d1 k)
      · exact fun k => d2 x hx (e1.mono _ _ k)
theorem St.look_good {P : Nat} (hN : N = P * K) (hK : 0 < K) (hrs : ∀ r, r ∈ rs → rightB P K r = true) (h : Good N P K rs s) {f : Nat × Nat} (hf1 : f.1 < N) (hf2 : f.2 < P) (hf : s.In f.1 f.2 = true) :
    Good N P K rs (s.look N P K (keptL N rs) f) ∧ Ext s (s.look N P K (keptL N rs) f) ∧ (s.look N P K (keptL N rs) f).steps ≤ s.steps + rs.length * (3 + P) ∧
    (∀ r, r ∈ rs → keepB N r f.1 = true → Did1 K f s (s.look N P K (keptL N rs) f) r) ∧ (∀ r, r ∈ rs → keepB N r (N + f.1 % K) = true → Did2 K f s (s.look N P K (keptL N rs) f) r) := by
  have hm : ∀ i r, r ∈ keptL N rs i → r ∈ rs ∧ rightB P K r = true ∧ keepB N r i = true := fun i r hr => by
    obtain ⟨h1, h2⟩ := List.mem_filter.1 hr
    exact ⟨h1, hrs r h1, h2⟩
  obtain ⟨g1, e1, t1, d1⟩ := St.byL_good hN hf1 hf2 (keptL N rs f.1) s h hf (hm _)
  obtain ⟨g2, e2, t2, d2⟩ := St.viaL_good hN hK hf1 hf2 (keptL N rs (N + f.1 % K)) _ g1 (e1.mono _ _ hf) (hm _)
  refine ⟨g2, e1.trans e2, ?_, fun r hr hk => (d1 r (List.mem_filter.2 ⟨hr, hk⟩)).up (Ext.refl _) e2, fun r hr hk a => d2 r (List.mem_filter.2 ⟨hr, hk⟩) (e1.mono _ _ a)⟩
  have l1 := keptL_len N rs f.1
  have l2 := keptL_len N rs (N + f.1 % K)
  have l3 := Nat.mul_le_mul_right (1 + P) l1
  unfold St.look
  rw [show 3 + P = (1 + P) + 2 from by omega, Nat.mul_add]
  omega
/-- What was looked at has brought all that follows. -/
structure Closed (K : Nat) (rs : List Rl) (s : St) : Prop where
  mem : ∀ r, r ∈ rs → r.kind = 1 → s.In r.head.toNat r.who.toNat = true
  incl : ∀ r, r ∈ rs → r.kind = 2 → ∀ c, s.In r.a.toNat c = true → (r.a.toNat, c) ∉ s.q → s.In r.head.toNat c = true
  link : ∀ r, r ∈ rs → r.kind = 3 → ∀ x c, s.In r.a.toNat x = true → (r.a.toNat, x) ∉ s.q → s.In (x * K + r.via.toNat) c = true → (x * K + r.via.toNat, c) ∉ s.q → s.In r.head.toNat c = true
  both : ∀ r, r ∈ rs → r.kind = 4 → ∀ c, s.In r.a.toNat c = true → (r.a.toNat, c) ∉ s.q → s.In r.b.toNat c = true → (r.b.toNat, c) ∉ s.q → s.In r.head.toNat c = true
theorem Closed.all (h : Closed K rs s) (hq : s.q = []) {i c : Nat} (d : Der K rs i c) : s.In i c = true := by
  have hn : ∀ f : Nat × Nat, f ∉ s.q := fun f hf => by rw [hq] at hf; cases hf
  induction d with
  | mem r h1 h2 => exact h.mem r h1 h2
  | incl r c h1 h2 _ i1 => exact h.incl r h1 h2 c i1 (hn _)
  | link r x c h1 h2 _ _ i1 i2 => exact h.link r h1 h2 x c i1 (hn _) i2 (hn _)
  | both r c h1 h2 _ _ i1 i2 => exact h.both r h1 h2 c i1 (hn _) i2 (hn _)
theorem St.look_closed {P : Nat} (hN : N = P * K) (hK : 0 < K) (hrs : ∀ r, r ∈ rs → rightB P K r = true) {f : Nat × Nat} {q : List (Nat × Nat)} {In : Nat → Nat → Bool} {tot steps : Nat}
    (h : Good N P K rs ⟨In, tot, steps, f :: q⟩) (hc : Closed K rs ⟨In, tot, steps, f :: q⟩) : Closed K rs (St.look N P K (keptL N rs) ⟨In, tot, steps, q⟩ f) := by
  have hf : In f.1 f.2 = true := h.que f (List.mem_cons_self ..)
  obtain ⟨hf1, hf2⟩ := h.out _ _ hf
  have h0 : Good N P K rs ⟨In, tot, steps, q⟩ := ⟨h.snd, h.out, fun x hx => h.que x (List.mem_cons_of_mem _ hx), h.tot⟩
  obtain ⟨g, e, _, d1, d2⟩ := St.look_good hN hK hrs h0 hf1 hf2 hf
  obtain ⟨t, ht⟩ : ∃ t, St.look N P K (keptL N rs) ⟨In, tot, steps, q⟩ f = t := ⟨_, rfl⟩
  rw [ht] at g e d1 d2 ⊢
  have hold : ∀ i c, t.In i c = true → (i, c) ∉ t.q → In i c = true ∧ ((i, c) = f ∨ (i, c) ∉ f :: q) := fun i c h1 h2 => by
    rcases e.new i c h1 with h3 | h3
    · refine ⟨h3, ?_⟩
      by_cases hef : (i, c) = f
      · exact .inl hef
      · right
        intro hm
        rcases List.mem_cons.1 hm with h4 | h4
        · exact hef h4
        · exact h2 (e.sub _ h4)
    · exact absurd h3 h2
  have up := e.mono
  have ka : ∀ (r : Rl) (i : Nat), 0 ≤ r.a → r.a.toNat = i → r.a = (i : Int) := fun r i h0 h1 => by omega
  have kb : ∀ (r : Rl) (i : Nat), 0 ≤ r.b → r.b.toNat = i → r.b = (i : Int) := fun r i h0 h1 => by omega
  refine ⟨fun r hr k => up _ _ (hc.mem r hr k), fun r hr k c h1 h2 => ?_, fun r hr k x c h1 h2 h3 h4 => ?_, fun r hr k c h1 h2 h3 h4 => ?_⟩
  · obtain ⟨_, hcase⟩ := right_iff (hrs r hr)
    obtain ⟨n1, n2⟩ := hold _ _ h1 h2
    rcases n2 with n2 | n2
    · subst n2
      refine (d1 r hr ?_).1 k
      unfold keepB
      rw [if_pos hf1]
      have : r.a = (r.a.toNat : Int) := by omega
      simp [k]; omega
    · exact up _ _ (hc.incl r hr k c n1 n2)
  · obtain ⟨_, hcase⟩ := right_iff (hrs r hr)
    obtain ⟨n1, n2⟩ := hold _ _ h1 h2
    obtain ⟨m1, m2⟩ := hold _ _ h3 h4
    rcases m2 with m2 | m2
    · subst m2
      have hv : r.via.toNat < K := by omega
      refine d2 r hr ?_ ?_
      · unfold keepB
        rw [if_neg (by omega)]
        simp only [Nat.mul_add_mod', Nat.mod_eq_of_lt hv]
        simp [k]; omega
      · show In r.a.toNat ((x * K + r.via.toNat) / K) = true
        rw [Nat.add_comm, Nat.add_mul_div_right _ _ hK, Nat.div_eq_of_lt hv, Nat.zero_add]
        exact n1
    rcases n2 with n2 | n2
    · subst n2
      refine (d1 r hr ?_).2.1 k c m1
      unfold keepB
      rw [if_pos hf1]
      simp [k]; omega
    · exact up _ _ (hc.link r hr k x c n1 n2 m1 m2)
  · obtain ⟨_, hcase⟩ := right_iff (hrs r hr)
    obtain ⟨n1, n2⟩ := hold _ _ h1 h2
    obtain ⟨m1, m2⟩ := hold _ _ h3 h4
    rcases n2 with n2 | n2
    · subst n2
      refine (d1 r hr ?_).2.2 k n1 m1
      unfold keepB
      rw [if_pos hf1]
      simp [k]; omega
    rcases m2 with m2 | m2
    · subst m2
      refine (d1 r hr ?_).2.2 k n1 m1
      unfold keepB
      rw [if_pos hf1]
      simp [k]; omega
    · exact up _ _ (hc.both r hr k c n1 n2 m1 m2)
end
end Go.Proofs.YtaabmkebbnkonaaDoor
/-
  The maker's run, in plain steps: at its end just that is in what follows; and how many steps it took.
-/
set_option linter.unusedVariables false
set_option linter.unusedSimpArgs false
set_option linter.unnecessarySimpa false
namespace Go.Proofs.YtaabmkebbnkonaaDoor
open Go.ChangeShapes Go.WideShapes Go.ChangeAt Go.RowKit Go.Deep SetPlain
section
variable {N P K : Nat} {rs : List Rl} {s : St}
theorem St.put_good {P : Nat} (hN : N = P * K) (h : Good N P K rs s) {r : Rl} (hr : r ∈ rs) (hR : rightB P K r = true) :
    Good N P K rs (s.put N P r) ∧ Ext s (s.put N P r) ∧ (s.put N P r).steps ≤ s.steps + 2 ∧ (r.kind = 1 → (s.put N P r).In r.head.toNat r.who.toNat = true) := by
  obtain ⟨⟨hh0, hh1⟩, hcase⟩ := right_iff hR
  rw [← hN] at hh1
  unfold St.put
  by_cases hk : r.kind = 1
  · rw [if_pos hk]
    obtain ⟨g, e, t, i⟩ := St.add_good (s := s.tick) h.tick (role := r.head.toNat) (who := r.who.toNat) (.mem r hr hk)
    exact ⟨g, (Ext.tick s).trans e, by rw [t]; exact Nat.le_refl _, fun _ => i (by omega) (by omega)⟩
  · rw [if_neg hk]
    exact ⟨h.tick, Ext.tick s, by show s.steps + 1 ≤ _; omega, fun k => absurd k hk⟩
theorem St.putL_good {P : Nat} (hN : N = P * K) : ∀ (l : List Rl) (s : St), Good N P K rs s → (∀ r, r ∈ l → r ∈ rs ∧ rightB P K r = true) →
    Good N P K rs (St.putL N P l s) ∧ Ext s (St.putL N P l s) ∧ (St.putL N P l s).steps ≤ s.steps + 2 * l.length ∧ (∀ r, r ∈ l → r.kind = 1 → (St.putL N P l s).In r.head.toNat r.who.toNat = true)
  | [], s, h, _ => ⟨h, Ext.refl s, Nat.le_add_right _ _, fun r hr => (by cases hr)⟩
  | r :: l, s, h, hl => by
    obtain ⟨m1, m2⟩ := hl r (List.mem_cons_self ..)
    obtain ⟨g1, e1, t1, i1⟩ := St.put_good hN h m1 m2
    obtain ⟨g2, e2, t2, i2⟩ := St.putL_good hN l _ g1 (fun x hx => hl x (List.mem_cons_of_mem _ hx))
    refine ⟨g2, e1.trans e2, ?_, fun x hx hk => ?_⟩
    · show (St.putL N P l (s.put N P r)).steps ≤ _
      rw [List.length_cons]; omega
    · rcases List.mem_cons.1 hx with rfl | hx
      · exact e2.mono _ _ (i1 hk)
      · exact i2 x hx hk
theorem St.putL_snoc (N P : Nat) (r : Rl) : ∀ (l : List Rl) (s : St), St.putL N P (l ++ [r]) s = (St.putL N P l s).put N P r
  | [], s => rfl
  | x :: l, s => St.putL_snoc N P r l (s.put N P x)
/-- A maker on its way: p facts have been looked at. -/
structure Run (N P K : Nat) (rs : List Rl) (p : Nat) (s : St) : Prop where
  good : Good N P K rs s
  closed : Closed K rs s
  pops : p + s.q.length = s.tot
  steps : s.steps ≤ 2 * rs.length + p * (rs.length * (3 + P))
theorem Run.start {P : Nat} (hN : N = P * K) (hrs : ∀ r, r ∈ rs → rightB P K r = true) : Run N P K rs 0 (St.putL N P rs St.zero) := by
  obtain ⟨g, e, t, i⟩ := St.putL_good (rs := rs) hN rs St.zero Good.zero (fun r hr => ⟨hr, hrs r hr⟩)
  have hq : ∀ i c, (St.putL N P rs St.zero).In i c = true → (i, c) ∈ (St.putL N P rs St.zero).q := fun i c h => (e.new i c h).elim (fun x => by cases x) id
  refine ⟨g, ⟨i, fun r _ _ c h1 h2 => absurd (hq _ _ h1) h2, fun r _ _ x c h1 h2 => absurd (hq _ _ h1) h2, fun r _ _ c h1 h2 => absurd (hq _ _ h1) h2⟩, ?_, ?_⟩
  · have := e.bal
    rw [Nat.zero_add]
    have h1 : St.zero.tot = 0 := rfl
    have h2 : St.zero.q.length = 0 := rfl
    omega
  · rw [Nat.zero_mul, Nat.add_zero]
    have h1 : St.zero.steps = 0 := rfl
    omega
theorem Run.next {P : Nat} (hN : N = P * K) (hrs : ∀ r, r ∈ rs → rightB P K r = true) {In : Nat → Nat → Bool} {tot steps p : Nat} {f : Nat × Nat} {q : List (Nat × Nat)} (h : Run N P K rs p ⟨In, tot, steps, f :: q⟩) :
    Run N P K rs (p + 1) (St.look N P K (keptL N rs) ⟨In, tot, steps, q⟩ f) ∧ Ext ⟨In, tot, steps, q⟩ (St.look N P K (keptL N rs) ⟨In, tot, steps, q⟩ f) ∧ f.1 < N ∧ f.2 < P ∧ 0 < K ∧ p < P * N := by
  have hf : In f.1 f.2 = true := h.good.que f (List.mem_cons_self ..)
  obtain ⟨hf1, hf2⟩ := h.good.out _ _ hf
  have hK : 0 < K := by
    rcases Nat.eq_zero_or_pos K with h0 | h0
    · rw [h0, Nat.mul_zero] at hN; omega
    · exact h0
  have h0 : Good N P K rs ⟨In, tot, steps, q⟩ := ⟨h.good.snd, h.good.out, fun x hx => h.good.que x (List.mem_cons_of_mem _ hx), h.good.tot⟩
  obtain ⟨g, e, t, _, _⟩ := St.look_good hN hK hrs h0 hf1 hf2 hf
  have hp := h.pops
  have hl := h.good.tot_le
  have hs := h.steps
  have hb := e.bal
  simp only [List.length_cons] at hp
  refine ⟨⟨g, St.look_closed hN hK hrs h.good h.closed, ?_, ?_⟩, e, hf1, hf2, hK, ?_⟩
  · show p + 1 + _ = _
    simp only [] at hb
    omega
  · have hsm : (p + 1) * (rs.length * (3 + P)) = p * (rs.length * (3 + P)) + rs.length * (3 + P) := Nat.succ_mul _ _
    simp only [] at hs t
    omega
  · simp only [] at hp hl
    omega
theorem Run.done {p : Nat} (h : Run N P K rs p s) (hq : s.q = []) (i c : Nat) : s.In i c = true ↔ Der K rs i c := ⟨h.good.snd i c, fun d => h.closed.all hq d⟩
theorem steps_arith {P K n m p S : Nat} (hp : p ≤ P * (P * K)) (hnm : n ≤ m) (hS : S ≤ 2 * n + p * (n * (3 + P))) : S ≤ 4 * (P + 1) * (P + 1) * (P + 1) * (K + 1) * (K + 1) * (m + 1) := by
  obtain ⟨A, hA⟩ : ∃ A, A = P * P * P := ⟨_, rfl⟩
  have h1 : p * (n * (3 + P)) ≤ 4 * (A * K * n) := by
    rcases Nat.eq_zero_or_pos P with h0 | h0
    · subst h0
      have : p = 0 := by simpa using hp
      rw [this, Nat.zero_mul]; exact Nat.zero_le _
    · have h2 : n * (3 + P) ≤ n * (4 * P) := Nat.mul_le_mul_left _ (by omega)
      have h3 := Nat.mul_le_mul hp h2
      have h4 : P * (P * K) * (n * (4 * P)) = 4 * (A * K * n) := by rw [hA]; simp only [Nat.mul_comm, Nat.mul_left_comm, Nat.mul_assoc]
      omega
  have hX : A + 1 ≤ (P + 1) * (P + 1) * (P + 1) := by
    rw [hA]
    have : (P + 1) * (P + 1) * (P + 1) = P * P * P + 3 * (P * P) + 3 * P + 1 := by
      simp only [Nat.mul_add, Nat.add_mul, Nat.mul_one, Nat.one_mul, Nat.mul_assoc]; omega
    omega
  have hY : K + 1 ≤ (K + 1) * (K + 1) := Nat.le_mul_of_pos_left _ (by omega)
  have h5 := Nat.mul_le_mul (Nat.mul_le_mul hX hY) (show n + 1 ≤ m + 1 by omega)
  have h6 : A * K * n + n ≤ (A + 1) * (K + 1) * (n + 1) := by
    have h7 : (A + 1) * (K + 1) = A * K + A + K + 1 := by rw [Nat.add_mul, Nat.mul_add]; omega
    have h8 : (A * K + 1) * n ≤ (A * K + A + K + 1) * (n + 1) := Nat.mul_le_mul (by omega) (by omega)
    rw [Nat.add_mul, Nat.one_mul] at h8
    rw [h7]; exact h8
  have h9 : 4 * (P + 1) * (P + 1) * (P + 1) * (K + 1) * (K + 1) * (m + 1) = 4 * ((P + 1) * (P + 1) * (P + 1) * ((K + 1) * (K + 1)) * (m + 1)) := by simp only [Nat.mul_assoc]
  rw [h9]
  omega
theorem Run.bound {P p : Nat} (hN : N = P * K) (h : Run N P K rs p s) {m : Nat} (hm : rs.length ≤ m) : s.steps ≤ 4 * (P + 1) * (P + 1) * (P + 1) * (K + 1) * (K + 1) * (m + 1) := by
  have h1 := h.good.tot_le
  have h2 := h.pops
  have h3 := h.steps
  rw [hN] at h1
  exact steps_arith (by omega) hm h3
/-- Nothing in it is great. -/
structure Few (s : St) : Prop where
  steps : s.steps ≤ 10000000000000000
  tot : s.tot ≤ 1000000
  len : s.q.length ≤ 1000000
theorem Few.down {s t : St} (e : Ext s t) (h : Few t) : Few s := ⟨Nat.le_trans e.steps h.steps, Nat.le_trans e.tot h.tot, Nat.le_trans e.len h.len⟩
theorem Run.few {P p : Nat} (hN : N = P * K) (hP : P ≤ 64) (hK : K ≤ 64) (hn : rs.length ≤ 1000000) (h : Run N P K rs p s) : Few s := by
  have h1 := h.good.tot_le
  have h2 := h.pops
  have h3 := h.bound hN (Nat.le_refl _)
  have hN2 : P * N ≤ 64 * (64 * 64) := by rw [hN]; exact Nat.mul_le_mul hP (Nat.mul_le_mul hP hK)
  have h4 : 4 * (P + 1) * (P + 1) * (P + 1) * (K + 1) * (K + 1) * (rs.length + 1) ≤ 4 * 65 * 65 * 65 * 65 * 65 * 1000001 * 1 := by
    rw [Nat.mul_one]
    exact Nat.mul_le_mul (Nat.mul_le_mul (Nat.mul_le_mul (Nat.mul_le_mul (Nat.mul_le_mul (Nat.mul_le_mul (Nat.le_refl _) (by omega)) (by omega)) (by omega)) (by omega)) (by omega)) (by omega)
  refine ⟨?_, by omega, by omega⟩
  have h5 : 4 * 65 * 65 * 65 * 65 * 65 * 1000001 * 1 = 4641167141162500 := by decide
  omega
theorem St.add_ext (s : St) (role who : Nat) : Ext s (s.add N P role who) := by
  unfold St.add
  cases hb : addB N P s.In role who with
  | true =>
    rw [if_pos rfl]
    have ht : addTot N P s.In role who s.tot = s.tot + 1 := by unfold addTot; rw [if_pos hb]
    have hin : ∀ i c, addIn N P s.In role who i c = true ↔ s.In i c = true ∨ (i, c) = (role, who) := fun i c => by
      unfold addIn
      rw [if_pos hb]
      show (if i = role then upd (s.In i) who else s.In i) c = true ↔ _
      by_cases hi : i = role
      · subst hi
        rw [if_pos rfl]
        show (decide (c = who) || s.In i c) = true ↔ _
        simp [or_comm]
      · rw [if_neg hi]; simp [hi]
    refine ⟨Nat.le_succ _, ?_, ?_, ?_, fun i c x => (hin i c).2 (.inl x), fun i c x => ?_, fun f x => List.mem_append_left _ x⟩
    · show s.tot ≤ addTot N P s.In role who s.tot; omega
    · show s.q.length ≤ (s.q ++ [(role, who)]).length; simp
    · show s.tot + (s.q ++ [(role, who)]).length = addTot N P s.In role who s.tot + s.q.length
      rw [ht]; simp; omega
    · rcases (hin i c).1 x with y | y
      · exact .inl y
      · rw [y]; exact .inr (List.mem_append_right _ (List.mem_singleton.2 rfl))
  | false => rw [if_neg (by simp)]; exact Ext.tick s
theorem St.addAll_ext {dst : Nat} : ∀ (l : List Nat) (s : St), Ext s (St.addAll N P dst l s)
  | [], s => Ext.refl s
  | x :: l, s => (St.add_ext s dst x).trans (St.addAll_ext l _)
theorem St.addAll_append {dst : Nat} (m : List Nat) : ∀ (l : List Nat) (s : St), St.addAll N P dst (l ++ m) s = St.addAll N P dst m (St.addAll N P dst l s)
  | [], s => rfl
  | x :: l, s => St.addAll_append m l _
theorem St.addAll_take {dst : Nat} (l : List Nat) (s : St) {j x : Nat} (hx : l[j]? = some x) :
    St.addAll N P dst (l.take (j + 1)) s = (St.addAll N P dst (l.take j) s).add N P dst x ∧ Ext ((St.addAll N P dst (l.take j) s).add N P dst x) (St.addAll N P dst l s) := by
  have h1 : l.take (j + 1) = l.take j ++ [x] := by rw [List.take_add_one, hx]; rfl
  have h2 : St.addAll N P dst (l.take (j + 1)) s = (St.addAll N P dst (l.take j) s).add N P dst x := by rw [h1, St.addAll_append]; rfl
  refine ⟨h2, ?_⟩
  rw [← h2]
  have h3 : St.addAll N P dst l s = St.addAll N P dst (l.drop (j + 1)) (St.addAll N P dst (l.take (j + 1)) s) := by rw [← St.addAll_append, List.take_append_drop]
  rw [h3]
  exact St.addAll_ext _ _
theorem St.all_ext (s : St) (src dst : Nat) : Ext s (s.all N P src dst) := St.addAll_ext _ _
theorem St.by1_ext {f : Nat × Nat} (s : St) (r : Rl) : Ext s (s.by1 N P K f r) := by
  unfold St.by1
  split
  · exact (Ext.tick s).trans (St.add_ext _ _ _)
  split
  · exact (Ext.tick s).trans (St.all_ext _ _ _)
  split
  · split
    · exact (Ext.tick s).trans (St.add_ext _ _ _)
    · exact Ext.tick s
  · exact Ext.tick s
theorem St.via1_ext {f : Nat × Nat} (s : St) (r : Rl) : Ext s (s.via1 N P K f r) := by
  unfold St.via1
  split
  · exact (Ext.tick s).trans (St.add_ext _ _ _)
  · exact Ext.tick s
theorem St.byL_ext {f : Nat × Nat} : ∀ (l : List Rl) (s : St), Ext s (St.byL N P K f l s)
  | [], s => Ext.refl s
  | r :: l, s => (St.by1_ext s r).trans (St.byL_ext l _)
theorem St.viaL_ext {f : Nat × Nat} : ∀ (l : List Rl) (s : St), Ext s (St.viaL N P K f l s)
  | [], s => Ext.refl s
  | r :: l, s => (St.via1_ext s r).trans (St.viaL_ext l _)
theorem St.byL_append {f : Nat × Nat} (m : List Rl) : ∀ (l : List Rl) (s : St), St.byL N P K f (l ++ m) s = St.byL N P K f m (St.byL N P K f l s)
  | [], s => rfl
  | x :: l, s => St.byL_append m l _
theorem St.viaL_append {f : Nat × Nat} (m : List Rl) : ∀ (l : List Rl) (s : St), St.viaL N P K f (l ++ m) s = St.viaL N P K f m (St.viaL N P K f l s)
  | [], s => rfl
  | x :: l, s => St.viaL_append m l _
theorem St.byL_take {f : Nat × Nat} (l : List Rl) (s : St) {j : Nat} {x : Rl} (hx : l[j]? = some x) :
    St.byL N P K f (l.take (j + 1)) s = (St.byL N P K f (l.take j) s).by1 N P K f x ∧ Ext ((St.byL N P K f (l.take j) s).by1 N P K f x) (St.byL N P K f l s) := by
  have h1 : l.take (j + 1) = l.take j ++ [x] := by rw [List.take_add_one, hx]; rfl
  have h2 : St.byL N P K f (l.take (j + 1)) s = (St.byL N P K f (l.take j) s).by1 N P K f x := by rw [h1, St.byL_append]; rfl
  refine ⟨h2, ?_⟩
  rw [← h2]
  have h3 : St.byL N P K f l s = St.byL N P K f (l.drop (j + 1)) (St.byL N P K f (l.take (j + 1)) s) := by rw [← St.byL_append, List.take_append_drop]
  rw [h3]
  exact St.byL_ext _ _
theorem St.viaL_take {f : Nat × Nat} (l : List Rl) (s : St) {j : Nat} {x : Rl} (hx : l[j]? = some x) :
    St.viaL N P K f (l.take (j + 1)) s = (St.viaL N P K f (l.take j) s).via1 N P K f x ∧ Ext ((St.viaL N P K f (l.take j) s).via1 N P K f x) (St.viaL N P K f l s) := by
  have h1 : l.take (j + 1) = l.take j ++ [x] := by rw [List.take_add_one, hx]; rfl
  have h2 : St.viaL N P K f (l.take (j + 1)) s = (St.viaL N P K f (l.take j) s).via1 N P K f x := by rw [h1, St.viaL_append]; rfl
  refine ⟨h2, ?_⟩
  rw [← h2]
  have h3 : St.viaL N P K f l s = St.viaL N P K f (l.drop (j + 1)) (St.viaL N P K f (l.take (j + 1)) s) := by rw [← St.viaL_append, List.take_append_drop]
  rw [h3]
  exact St.viaL_ext _ _
end
end Go.Proofs.YtaabmkebbnkonaaDoor
/-
  The maker's add.
-/
set_option linter.unusedVariables false
set_option linter.unusedSimpArgs false
set_option linter.unnecessarySimpa false
namespace Go.Proofs.YtaabmkebbnkonaaDoor
open Go.ChangeShapes Go.WideShapes Go.ChangeAt Go.RowKit Go.Deep SetPlain

theorem fcInfo : (Tryd.prog.info? 88).map (fun i => (i.zero, i.size, i.bytes)) = some (some (.agg #[.int .i64 0, .int .i64 0]), 2, 16) := by kernel_rfl
/-- A maker in memory, by its state. -/
def SemAt (W : World) (M : Mk) (vr : Nat → Value) (L : Nat → List Rl) (s : St) (vq : Value) : Prop := SemMem W M vr L s.In s.tot s.steps vq s.q
/-- What a call may have done to memory. -/
structure SemStep (M : Mk) (vr vr' : Nat → Value) (vq vq' : Value) (W W' : World) : Prop where
  keeps : Keeps (semFp M vr vq) W W'
  fp : ∀ k, semFp M vr' vq' k → semFp M vr vq k ∨ W.heap.size ≤ k
theorem SemStep.refl (M : Mk) (vr : Nat → Value) (vq : Value) (W : World) : SemStep M vr vr vq vq W W := ⟨Keeps.refl _ _, fun k h => .inl h⟩
theorem SemStep.trans {M : Mk} {vr vr' vr2 : Nat → Value} {vq vq' vq2 : Value} {W W' W2 : World} (h : SemStep M vr vr' vq vq' W W') (k : SemStep M vr' vr2 vq' vq2 W' W2) : SemStep M vr vr2 vq vq2 W W2 :=
  ⟨h.keeps.trans_new k.keeps (fun i hi x => (h.fp i x).elim id (fun y => by omega)), fun i x => (k.fp i x).elim (h.fp i) (fun y => .inr (Nat.le_trans h.keeps.size y))⟩
theorem SemStep.quiet {M : Mk} {vr : Nat → Value} {vq : Value} {W W' : World} (h : Keeps (fun _ => False) W W') : SemStep M vr vr vq vq W W' := ⟨h.mono (fun _ _ x => x.elim), fun k x => .inl x⟩
section
variable {W : World} {M : Mk} {vr : Nat → Value} {L : Nat → List Rl} {s : St} {vq : Value}
theorem SemAt.tick (h : SemAt W M vr L s vq) : SemAt (W.setCell ⟨M.mo, 3, none⟩ (.int .i64 (s.steps + 1 : Nat))) M vr L s.tick vq ∧ SemStep M vr vr vq vq W (W.setCell ⟨M.mo, 3, none⟩ (.int .i64 (s.steps + 1 : Nat))) :=
  ⟨SemMem.setSteps h _, ⟨Keeps.setCell (Keeps.refl _ _) (p := ⟨M.mo, 3, none⟩) (fun _ => .inr (.inl rfl)) _, fun k x => .inl x⟩⟩
theorem SemAt.mcells (h : SemAt W M vr L s vq) : W.cell? ⟨M.mb, 0, none⟩ = some (.pointer (some ⟨M.mo, 0, none⟩)) ∧ W.cell? ⟨M.mb, 1, none⟩ = some (.slice (some ⟨M.bb, 0, none⟩) M.N M.N) ∧ W.cell? ⟨M.mb, 2, none⟩ = some (.slice (some ⟨M.vb, 0, none⟩) M.K M.K) ∧ W.cell? ⟨M.mb, 3, none⟩ = some vq := by
  have := h.mko
  unfold mkObj at this
  exact ⟨by rw [cell_of_heap this]; rfl, by rw [cell_of_heap this]; rfl, by rw [cell_of_heap this]; rfl, by rw [cell_of_heap this]; rfl⟩
theorem SemAt.ocells (h : SemAt W M vr L s vq) : W.cell? ⟨M.mo, 0, none⟩ = some (.pointer (some ⟨M.fb, 0, none⟩)) ∧ W.cell? ⟨M.mo, 1, none⟩ = some (.int .i64 M.P) ∧ W.cell? ⟨M.mo, 2, none⟩ = some (.int .i64 M.K) ∧ W.cell? ⟨M.mo, 3, none⟩ = some (.int .i64 s.steps) := by
  have := h.moo
  unfold moObj at this
  exact ⟨by rw [cell_of_heap this]; rfl, by rw [cell_of_heap this]; rfl, by rw [cell_of_heap this]; rfl, by rw [cell_of_heap this]; rfl⟩
theorem SemAt.free (h : SemAt W M vr L s vq) : (∀ i, W.frozen? ⟨M.mb, i, none⟩ = false) ∧ (∀ i, W.frozen? ⟨M.mo, i, none⟩ = false) := by
  have h1 := h.mko
  have h2 := h.moo
  unfold mkObj at h1
  unfold moObj at h2
  exact ⟨fun i => free_of_heap h1 i, fun i => free_of_heap h2 i⟩
theorem SemAt.keeps (h : SemAt W M vr L s vq) {W' : World} (hk : Keeps (fun _ => False) W W') : SemAt W' M vr L s vq := SemMem.keeps h hk (fun _ _ x => x)
def AddPostS (M : Mk) (vr : Nat → Value) (L : Nat → List Rl) (vq : Value) (t : St) (W : World) (e : Ending) (W' : World) : Prop :=
  e = .returned (.tuple #[]) ∧ ∃ vq', SemAt W' M vr L t vq' ∧ SemStep M vr vr vq vq' W W'
set_option maxRecDepth 100000 in
set_option maxHeartbeats 1600000 in
theorem sadd_spec (h : SemAt W M vr L s vq) (role who : Nat) (hr : role ≤ 1000000000) (hw : who ≤ 1000000000) (hf : Few (s.add M.N M.P role who)) :
    Calls Tryd.prog 54 #[.pointer (some ⟨M.mb, 0, none⟩), .int .i64 role, .int .i64 who] W (AddPostS M vr L vq (s.add M.N M.P role who) W) := by
  obtain ⟨i0, hi0, hz0, hz1', hz2⟩ := info_parts fcInfo
  have hsteps : s.steps + 1 ≤ 10000000000000000 := by
    have := hf.steps
    unfold St.add at this
    split at this <;> exact this
  have htot : s.tot ≤ 1000000 := by
    have := hf.tot
    unfold St.add addTot at this
    split at this
    · rename_i hb
      have h2 : s.tot + 1 ≤ 1000000 := this
      omega
    · exact this
  have hlen : s.q.length ≤ 1000000 := by
    have := hf.len
    unfold St.add at this
    split at this
    · simp at this; omega
    · exact this
  obtain ⟨m0, m1, m2, m3⟩ := h.mcells
  obtain ⟨o0, o1, o2, o3⟩ := h.ocells
  have fo := h.free.2 3
  obtain ⟨t1, st1⟩ := h.tick
  have hwt : IntKind.i64.wrap ((s.steps : Int) + 1) = (s.steps : Int) + 1 := IntWalk.i64_in _ (by omega)
  rw [show ((s.steps + 1 : Nat) : Int) = (s.steps : Int) + 1 from by omega] at t1 st1
  obtain ⟨a0, a1, a2, a3⟩ := t1.mcells
  obtain ⟨b0, b1, b2, b3⟩ := t1.ocells
  have HA := Lib.hid (fadd_spec t1.fam (show s.tot ≤ 1000000000 by omega) role who (by omega) (by omega))
  have T1 := Lib.hid t1
  have ST1 := Lib.hid st1
  have Hp : Hid (∀ vq' W', SemAt W' M vr L (s.add M.N M.P role who) vq' → SemStep M vr vr vq vq' W W' → AddPostS M vr L vq (s.add M.N M.P role who) W (.returned (.tuple #[])) W') := fun vq' W' x y => ⟨rfl, vq', x, y⟩
  have hadd : s.tick.In = s.In := rfl
  clear t1 st1 hf htot
  go_enter Tryd.func54, Tryd.ntmps54
  go_wp2_with fail
  refine HA.out.mono ?_
  rintro e W2 ⟨rfl, fm, kf⟩
  have t2 : SemMem W2 M vr L (addIn M.N M.P s.In role who) (addTot M.N M.P s.In role who s.tot) (s.steps + 1) vq s.q := SemMem.setFam T1.out fm kf
  have st2 : SemStep M vr vr vq vq (W.setCell ⟨M.mo, 3, none⟩ (.int .i64 ((s.steps : Int) + 1))) W2 := ⟨kf.mono (fun k _ x => .inr (.inr (.inl x))), fun k x => .inl x⟩
  have st3 := ST1.out.trans st2
  have hab : addB M.N M.P s.tick.In role who = addB M.N M.P s.In role who := rfl
  rw [hab]
  cases hb : addB M.N M.P s.In role who with
  | false =>
    have hn : s.add M.N M.P role who = s.tick := by unfold St.add; rw [if_neg (by rw [hb]; simp)]
    have t3 : SemAt W2 M vr L s.tick vq := by
      unfold addIn addTot at t2
      rw [hb] at t2
      exact t2
    have HP := Lib.hid (Hp.out vq W2 (by rw [hn]; exact t3) st3)
    clear t2 t3 fm kf st2 st3 Hp HA T1 ST1
    go_wp2
    go_end0
    exact HP.out
  | true =>
    have hn : s.add M.N M.P role who = ⟨addIn M.N M.P s.In role who, addTot M.N M.P s.In role who s.tot, s.steps + 1, s.q ++ [(role, who)]⟩ := by unfold St.add; rw [if_pos hb]
    have T2 := Lib.hid t2
    have ST3 := Lib.hid st3
    obtain ⟨c0, c1, c2, c3⟩ := SemAt.mcells (s := ⟨_, _, _, _⟩) t2
    have lm : M.mb < W2.heap.size := lt_of_heap t2.mko
    have hq0 := t2.que
    have Hown : Hid (∀ o, TailRow (W2.alloc o) 88 2 vq s.q.length (fcCells s.q)) := fun o => hq0.keeps ((Keeps.refl (fun _ => False) W2).alloc o) (fun _ _ x => x)
    have Hfin : Hid (∀ o ao cap W3, TailRow W3 88 2 (.slice ao (s.q.length + 1) cap) (s.q.length + 1) (fcCells s.q ++ [.int .i64 role, .int .i64 who]) → (W2.alloc o).grownBy W3 vq.ownBlock → (∀ k, (Value.slice ao (s.q.length + 1) cap).ownBlock = some k → vq.ownBlock = some k ∨ W2.heap.size + 1 ≤ k) →
        W3.cell? ⟨M.mb, 3, none⟩ = some vq ∧ W3.frozen? ⟨M.mb, 3, none⟩ = false ∧ Hid (AddPostS M vr L vq (s.add M.N M.P role who) W (.returned (.tuple #[])) (W3.setCell ⟨M.mb, 3, none⟩ (.slice ao (s.q.length + 1) cap)))) := fun o ao cap W3 hq hg hfp => by
      have ka : Keeps (fun _ => False) W2 (W2.alloc o) := (Keeps.refl _ _).alloc o
      have kg := keeps_grown hg
      have t3 := SemMem.keeps t2 ka (fun _ _ x => x)
      have k3 : Keeps (fun k => vq.ownBlock = some k) W2 W3 := (ka.mono (fun _ _ x => x.elim)).trans kg
      have hm : W3.heap[M.mb]? = some (mkObj M vq) := (k3.block _ lm (t2.que.type t2.mko (by decide))).trans t2.mko
      unfold mkObj at hm
      have hq' : TailRow W3 88 2 (.slice ao (s.q.length + 1) cap) (s.q ++ [(role, who)]).length (fcCells (s.q ++ [(role, who)])) := by
        rw [fcCells_append, List.length_append]; exact hq
      have t4 := SemMem.setQueue t2 hq' k3
      refine ⟨by rw [cell_of_heap hm]; rfl, free_of_heap hm 3, Hp.out _ _ (by rw [hn]; exact t4) (st3.trans ⟨?_, fun k x => ?_⟩)⟩
      · exact Keeps.setCell (k3.mono (fun k _ x => .inr (.inr (.inr (.inr (.inr (.inr x))))))) (p := ⟨M.mb, 3, none⟩) (fun _ => .inl rfl) _
      · rcases x with x | x | x | x | x | x | x
        · exact .inl (.inl x)
        · exact .inl (.inr (.inl x))
        · exact .inl (.inr (.inr (.inl x)))
        · exact .inl (.inr (.inr (.inr (.inl x))))
        · exact .inl (.inr (.inr (.inr (.inr (.inl x)))))
        · exact .inl (.inr (.inr (.inr (.inr (.inr (.inl x))))))
        · rcases hfp k x with y | y
          · exact .inl (.inr (.inr (.inr (.inr (.inr (.inr y))))))
          · exact .inr (by omega)
    clear t2 fm kf st2 st3 Hp HA T1 ST1 hq0
    go_wp2_with (at_builtin; refine wpList_append_tail _ rfl _ _ 83 rfl 88 i0 _ 2 16 Tryd.underlying83 hi0 hz0 hz1' hz2 rfl (by decide) _ s.q.length (fcCells s.q) rfl (Hown.out _) ⟨W2.heap.size, 0, none⟩ 1 1 [.int .i64 role, .int .i64 who] rfl rfl (cells_new W2 _ _) (by intro u hu; simp only [List.mem_cons, List.not_mem_nil, or_false] at hu; rcases hu with rfl | rfl <;> rfl) (by omega) (by unfold maxLen; omega) (by omega) ?_)
    intro ao cap W3 hown hgrow hfp
    obtain ⟨e3, f3, hpost⟩ := Hfin.out _ _ _ _ hown hgrow hfp
    clear hown hgrow hfp Hown Hfin T2 ST3 c0 c1 c2 c3
    go_wp2
    go_end0
    have hpo := hpost.out
    rw [hn] at hpo
    exact hpo
end
end Go.Proofs.YtaabmkebbnkonaaDoor
/-
  The maker's all: all in a role are in another one, too.
-/
set_option linter.unusedVariables false
set_option linter.unusedSimpArgs false
set_option linter.unnecessarySimpa false
namespace Go.Proofs.YtaabmkebbnkonaaDoor
open Go.ChangeShapes Go.WideShapes Go.ChangeAt Go.RowKit Go.Deep SetPlain
theorem SemStep.foreign {M : Mk} {vr vr' : Nat → Value} {vq vq' : Value} {W W' : World} (h : SemStep M vr vr' vq vq' W W') {x : Nat} (hx : ¬ semFp M vr vq x) (hl : x < W.heap.size) : W'.heap[x]? = W.heap[x]? ∧ ¬ semFp M vr' vq' x ∧ x < W'.heap.size :=
  ⟨h.keeps.block x hl hx, fun y => (h.fp x y).elim hx (fun z => by omega), Nat.lt_of_lt_of_le hl h.keeps.size⟩
section
variable {W : World} {M : Mk} {vr : Nat → Value} {L : Nat → List Rl} {s : St} {vq : Value}
theorem rowP_at {R : Nat} {In : Nat → Nat → Bool} {i : Nat} (h : i < R) : rowP R In (i : Int) = In i := by unfold rowP; rw [if_pos (by omega)]; rfl
set_option maxRecDepth 100000 in
set_option maxHeartbeats 1600000 in
theorem sall_spec (h : SemAt W M vr L s vq) (hT : TabIn W) (src dst : Nat) (hs : src < M.N) (hd : dst ≤ 1000000000) (hf : Few (s.all M.N M.P src dst)) :
    Calls Tryd.prog 55 #[.pointer (some ⟨M.mb, 0, none⟩), .int .i64 src, .int .i64 dst] W (AddPostS M vr L vq (s.all M.N M.P src dst) W) := by
  obtain ⟨m0, m1, m2, m3⟩ := h.mcells
  obtain ⟨o0, o1, o2, o3⟩ := h.ocells
  have hP := h.hP
  obtain ⟨l, hl⟩ : ∃ l, l = listTo (s.In src) M.P := ⟨_, rfl⟩
  have HL := flist_spec h.fam hT src
  rw [rowP_at hs, ← hl] at HL
  have hll : l.length ≤ 64 := by rw [hl, listTo_len]; have := cnt_le (s.In src) M.P; omega
  have hmem : ∀ (j x : Nat), l[j]? = some x → x ≤ 1000000000 := fun j x hj => by
    have := (listTo_lt (s.In src) M.P x (by rw [← hl]; exact List.mem_of_getElem? hj)).1
    omega
  have Hf : Hid (∀ (j x : Nat), l[j]? = some x → St.addAll M.N M.P dst (l.take (j + 1)) s = (St.addAll M.N M.P dst (l.take j) s).add M.N M.P dst x ∧ Few ((St.addAll M.N M.P dst (l.take j) s).add M.N M.P dst x)) := fun j x hj => by
    obtain ⟨h1, h2⟩ := St.addAll_take (N := M.N) (P := M.P) (dst := dst) l s hj
    refine ⟨h1, Few.down h2 ?_⟩
    rw [hl]; exact hf
  have Hend : Hid (St.addAll M.N M.P dst (l.take l.length) s = s.all M.N M.P src dst) := by
    show _ = _
    rw [List.take_length, hl]; rfl
  have HL' := Lib.hid HL
  have H := Lib.hid h
  have Hmem := Lib.hid hmem
  have hlt := Lib.hid (SemMem.lt h)
  clear HL hl hf hT hmem h
  go_enter Tryd.func55, Tryd.ntmps55
  go_wp2_with fail
  refine HL'.out.mono ?_
  rintro e W2 ⟨v, rfl, hown, hb⟩
  obtain ⟨ao, cap, rfl, hle, hmx, hnone, hcells⟩ := own_form hown
  have hk2 : Keeps (fun _ => False) W W2 := Keeps.of_below hb (Nat.le_refl _)
  have HC : Hid (∀ (j x : Nat), l[j]? = some x → ∃ g, ao = some ⟨g, 0, none⟩ ∧ W2.cell? ⟨g, j, none⟩ = some (.int .i64 (x : Int)) ∧ ¬ semFp M vr vq g ∧ g < W2.heap.size) := fun j x hj => by
    cases ao with
    | none =>
      have := (hnone rfl).1
      rw [List.getElem?_eq_none (by omega)] at hj; cases hj
    | some a =>
      obtain ⟨h4, h5, h6, h7, h8⟩ := hcells a rfl
      obtain ⟨bb, off, sp⟩ := a
      simp only at h4 h5 h6 h7 h8
      subst h4; subst h5
      exact ⟨bb, rfl, h8 j (intV x) (by rw [List.getElem?_map, hj]; rfl), fun hx => by have := hlt.out bb hx; omega, h6⟩
  have H2 : Hid (SemAt W2 M vr L s vq) := SemAt.keeps H.out hk2
  have K2 := Lib.hid hk2
  clear hown hcells hnone HL' hb hk2
  go_wp2_with fail
  go_loopg [18] l.length (fun g t wr => ∃ j : Nat, j ≤ l.length ∧ g = l.length - j ∧ t = .int .i64 j ∧ ∃ vq', Hid (SemAt wr M vr L (St.addAll M.N M.P dst (l.take j) s) vq') ∧ Hid (SemStep M vr vr vq vq' W2 wr))
  case atStart => exact ⟨0, Nat.zero_le _, rfl, rfl, vq, H2.out, SemStep.refl _ _ _ _⟩
  case round =>
    obtain ⟨j, hj, rfl, rfl, vq', hat, hst⟩ := hrel
    by_cases hlt2 : j < l.length
    · obtain ⟨x, hx⟩ : ∃ x, l[j]? = some x := ⟨_, List.getElem?_eq_getElem hlt2⟩
      obtain ⟨g, rfl, hc, hng, hgl⟩ := HC.out j x hx
      have hcr : wr.cell? ⟨g, j, none⟩ = some (.int .i64 (x : Int)) := (World.cell?_of_block (hst.out.foreign hng hgl).1).trans hc
      have hxs := Hmem.out j x hx
      obtain ⟨hs1, hs2⟩ := Hf.out j x hx
      have HA := Lib.hid (sadd_spec hat.out dst x hd hxs hs2)
      have hs1' := Lib.hid hs1
      have hjI : (j : Int) < (l.length : Int) := by omega
      clear hc hs1 hs2 hat
      go_wp2_with fail
      refine HA.out.mono ?_
      rintro e W3 ⟨rfl, vq3, hat3, hst3⟩
      have HAT : Hid (SemAt W3 M vr L (St.addAll M.N M.P dst (l.take (j + 1)) s) vq3) := by rw [hs1'.out]; exact hat3
      have HST : Hid (SemStep M vr vr vq vq3 W2 W3) := hst.out.trans hst3
      clear hat3 hst3 HA hs1'
      go_wp2_with fail
      go_roundg (l.length - (j + 1))
      case measure => omega
      case rel => exact ⟨j + 1, by omega, rfl, by go_num, vq3, HAT, HST⟩
    · obtain rfl : j = l.length := by omega
      have hpost : AddPostS M vr L vq (s.all M.N M.P src dst) W (.returned (.tuple #[])) wr := ⟨rfl, vq', by rw [← Hend.out]; exact hat.out, (SemStep.quiet K2.out).trans hst.out⟩
      have HP := Lib.hid hpost
      clear hpost hat hst
      go_wp2
      go_end0
      exact HP.out
end
end Go.Proofs.YtaabmkebbnkonaaDoor
/-
  The maker's look: what follows of one fact.
-/
set_option linter.unusedVariables false
set_option linter.unusedSimpArgs false
set_option linter.unnecessarySimpa false
namespace Go.Proofs.YtaabmkebbnkonaaDoor
open Go.ChangeShapes Go.WideShapes Go.ChangeAt Go.RowKit Go.Deep SetPlain
/-- A maker, a fact's box beside it, and the table of trailing zeros. -/
structure LookF (W0 : World) (M : Mk) (vr : Nat → Value) (L : Nat → List Rl) (vq0 : Value) (x0 : Nat) (f : Nat × Nat) (s : St) (vq : Value) (W : World) : Prop where
  at_ : SemAt W M vr L s vq
  step : SemStep M vr vr vq0 vq W0 W
  f0 : W.cell? ⟨x0, 0, none⟩ = some (.int .i64 f.1)
  f1 : W.cell? ⟨x0, 1, none⟩ = some (.int .i64 f.2)
  nx : ¬ semFp M vr vq x0
  tab : TabIn W
  ntab : ¬ semFp M vr vq 0
def RlAt (W : World) (x : Nat) (r : Rl) : Prop :=
  W.cell? ⟨x, 0, none⟩ = some (.int .i64 r.kind) ∧ W.cell? ⟨x, 1, none⟩ = some (.int .i64 r.head) ∧ W.cell? ⟨x, 2, none⟩ = some (.int .i64 r.who) ∧ W.cell? ⟨x, 3, none⟩ = some (.int .i64 r.a) ∧ W.cell? ⟨x, 4, none⟩ = some (.int .i64 r.b) ∧ W.cell? ⟨x, 5, none⟩ = some (.int .i64 r.via)
structure LookAt (W0 : World) (M : Mk) (vr : Nat → Value) (L : Nat → List Rl) (vq0 : Value) (x0 : Nat) (f : Nat × Nat) (x1 : Nat) (r : Rl) (s : St) (vq : Value) (W : World) : Prop where
  fact : LookF W0 M vr L vq0 x0 f s vq W
  rule : RlAt W x1 r
  nx1 : ¬ semFp M vr vq x1
def ruleObj (r : Rl) : Obj := .cells #[.int .i64 r.kind, .int .i64 r.head, .int .i64 r.who, .int .i64 r.a, .int .i64 r.b, .int .i64 r.via] 29 (0, 0)
section
variable {W0 W : World} {M : Mk} {vr : Nat → Value} {L : Nat → List Rl} {s : St} {vq0 vq : Value} {x0 x1 : Nat} {f : Nat × Nat} {r : Rl}
theorem LookF.move (h : LookF W0 M vr L vq0 x0 f s vq W) {s' : St} {vq' : Value} {W' : World} (ha : SemAt W' M vr L s' vq') (hs : SemStep M vr vr vq vq' W W') : LookF W0 M vr L vq0 x0 f s' vq' W' := by
  obtain ⟨h1, h2, h3⟩ := hs.foreign h.nx (lt_of_cell h.f0)
  obtain ⟨g1, g2, g3⟩ := hs.foreign h.ntab h.tab.lt
  exact ⟨ha, h.step.trans hs, (World.cell?_of_block h1).trans h.f0, (World.cell?_of_block h1).trans h.f1, h2, fun j hj => (World.cell?_of_block g1).trans (h.tab j hj), g2⟩
theorem LookAt.move (h : LookAt W0 M vr L vq0 x0 f x1 r s vq W) {s' : St} {vq' : Value} {W' : World} (ha : SemAt W' M vr L s' vq') (hs : SemStep M vr vr vq vq' W W') : LookAt W0 M vr L vq0 x0 f x1 r s' vq' W' := by
  obtain ⟨r0, r1, r2, r3, r4, r5⟩ := h.rule
  obtain ⟨h1, h2, h3⟩ := hs.foreign h.nx1 (lt_of_cell r0)
  have hc : ∀ i, W'.cell? ⟨x1, i, none⟩ = W.cell? ⟨x1, i, none⟩ := fun i => World.cell?_of_block h1
  exact ⟨h.fact.move ha hs, ⟨(hc 0).trans r0, (hc 1).trans r1, (hc 2).trans r2, (hc 3).trans r3, (hc 4).trans r4, (hc 5).trans r5⟩, h2⟩
theorem LookF.box (h : LookF W0 M vr L vq0 x0 f s vq W) (r : Rl) : LookAt W0 M vr L vq0 x0 f W.heap.size r s vq (W.alloc (ruleObj r)) := by
  have hk : Keeps (fun _ => False) W (W.alloc (ruleObj r)) := (Keeps.refl _ _).alloc _
  refine ⟨h.move (h.at_.keeps hk) (SemStep.quiet hk), ?_, fun hx => ?_⟩
  · unfold ruleObj RlAt; refine ⟨?_, ?_, ?_, ?_, ?_, ?_⟩ <;> simp
  · have := SemMem.lt h.at_ _ hx
    omega
theorem LookAt.tick (h : LookAt W0 M vr L vq0 x0 f x1 r s vq W) : LookAt W0 M vr L vq0 x0 f x1 r s.tick vq (W.setCell ⟨M.mo, 3, none⟩ (.int .i64 (s.steps + 1 : Nat))) := h.move h.fact.at_.tick.1 h.fact.at_.tick.2
theorem LookAt.quiet (h : LookAt W0 M vr L vq0 x0 f x1 r s vq W) {W' : World} (hk : Keeps (fun _ => False) W W') : LookAt W0 M vr L vq0 x0 f x1 r s vq W' := h.move (h.fact.at_.keeps hk) (SemStep.quiet hk)
theorem LookF.quiet (h : LookF W0 M vr L vq0 x0 f s vq W) {W' : World} (hk : Keeps (fun _ => False) W W') : LookF W0 M vr L vq0 x0 f s vq W' := h.move (h.at_.keeps hk) (SemStep.quiet hk)
/-- What the regions read. -/
def LookS (M : Mk) (x0 : Nat) (f : Nat × Nat) (x1 : Nat) (r : Rl) (W : World) : Prop :=
  (W.cell? ⟨M.mb, 0, none⟩ = some (.pointer (some ⟨M.mo, 0, none⟩)) ∧ W.cell? ⟨M.mo, 0, none⟩ = some (.pointer (some ⟨M.fb, 0, none⟩)) ∧ W.cell? ⟨M.mo, 2, none⟩ = some (.int .i64 M.K)) ∧ (W.cell? ⟨x0, 0, none⟩ = some (.int .i64 f.1) ∧ W.cell? ⟨x0, 1, none⟩ = some (.int .i64 f.2)) ∧ RlAt W x1 r
theorem LookAt.rd (h : Hid (LookAt W0 M vr L vq0 x0 f x1 r s vq W)) : LookS M x0 f x1 r W := ⟨⟨h.out.fact.at_.mcells.1, h.out.fact.at_.ocells.1, h.out.fact.at_.ocells.2.2.1⟩, ⟨h.out.fact.f0, h.out.fact.f1⟩, h.out.rule⟩
theorem LookAt.add (h : Hid (LookAt W0 M vr L vq0 x0 f x1 r s vq W)) (role who : Nat) (hr : role ≤ 1000000000) (hw : who ≤ 1000000000) (hf : Few (s.add M.N M.P role who)) :
    Calls Tryd.prog 54 #[.pointer (some ⟨M.mb, 0, none⟩), .int .i64 role, .int .i64 who] W fun e W' => e = .returned (.tuple #[]) ∧ ∃ vq', Hid (LookAt W0 M vr L vq0 x0 f x1 r (s.add M.N M.P role who) vq' W') :=
  (sadd_spec h.out.fact.at_ role who hr hw hf).mono fun e W' ⟨he, vq', ha, hs⟩ => ⟨he, vq', h.out.move ha hs⟩
theorem LookAt.all (h : Hid (LookAt W0 M vr L vq0 x0 f x1 r s vq W)) (src dst : Nat) (hs : src < M.N) (hd : dst ≤ 1000000000) (hf : Few (s.all M.N M.P src dst)) :
    Calls Tryd.prog 55 #[.pointer (some ⟨M.mb, 0, none⟩), .int .i64 src, .int .i64 dst] W fun e W' => e = .returned (.tuple #[]) ∧ ∃ vq', Hid (LookAt W0 M vr L vq0 x0 f x1 r (s.all M.N M.P src dst) vq' W') :=
  (sall_spec h.out.fact.at_ h.out.fact.tab src dst hs hd hf).mono fun e W' ⟨he, vq', ha, hs⟩ => ⟨he, vq', h.out.move ha hs⟩
theorem LookAt.has (h : Hid (LookAt W0 M vr L vq0 x0 f x1 r s vq W)) (i : Int) (c : Nat) (hi0 : 0 ≤ i) (hi : i < M.N) (hc : c < M.P) :
    Calls Tryd.prog 32 #[.pointer (some ⟨M.fb, 0, none⟩), .int .i64 i, .int .i64 c] W fun e W' => e = .returned (.bool (s.In i.toNat c)) ∧ Hid (LookAt W0 M vr L vq0 x0 f x1 r s vq W') := by
  have hP := h.out.fact.at_.hP
  refine (fhas_spec h.out.fact.at_.fam i c (by omega) (by omega)).mono ?_
  rintro e W' ⟨rfl, rfl⟩
  refine ⟨?_, h⟩
  have : hasB M.N M.P s.In i c = s.In i.toNat c := by
    unfold hasB rowP
    rw [if_pos ⟨hi0, hi⟩]
    have : (0 : Int) ≤ c ∧ (c : Int) < M.P := by omega
    simp [this]
  rw [this]
/-- A rule in a row. -/
theorem SemAt.rule (h : SemAt W M vr L s vq) {i : Nat} (hi : i < M.N + M.K) {ao : Option Addr} {n cap : Nat} (hv : vr i = .slice ao n cap) {j : Nat} {r : Rl} (hr : (L i)[j]? = some r) :
    ∃ g k, ao = some ⟨g, k, none⟩ ∧ W.cell? ⟨g, k + j * 6, none⟩ = some (.int .i64 r.kind) ∧ W.cell? ⟨g, k + j * 6 + 1, none⟩ = some (.int .i64 r.head) ∧ W.cell? ⟨g, k + j * 6 + 2, none⟩ = some (.int .i64 r.who) ∧ W.cell? ⟨g, k + j * 6 + 3, none⟩ = some (.int .i64 r.a) ∧ W.cell? ⟨g, k + j * 6 + 4, none⟩ = some (.int .i64 r.b) ∧ W.cell? ⟨g, k + j * 6 + 5, none⟩ = some (.int .i64 r.via) := by
  obtain ⟨ao', cap', hv', _, _, _, hc⟩ := (h.rows i hi).form
  rw [hv] at hv'
  cases hv'
  have hl : 0 < (L i).length := by
    rcases Nat.eq_zero_or_pos (L i).length with h0 | h0
    · rw [List.getElem?_eq_none (by omega)] at hr; cases hr
    · exact h0
  obtain ⟨g, k, rfl, _, hcc⟩ := hc hl
  have hg : ∀ (t : Nat) (u : Value), r.cells[t]? = some u → W.cell? ⟨g, k + j * 6 + t, none⟩ = some u := fun t u hu => by
    have := hcc _ u (rlCells_get (L i) j r hr t u hu)
    rw [show k + (j * 6 + t) = k + j * 6 + t from by omega] at this
    exact this
  exact ⟨g, k, rfl, hg 0 _ rfl, hg 1 _ rfl, hg 2 _ rfl, hg 3 _ rfl, hg 4 _ rfl, hg 5 _ rfl⟩
theorem SemAt.rowV (h : SemAt W M vr L s vq) {i : Nat} (hi : i < M.N + M.K) : ∃ ao cap, vr i = .slice ao (L i).length cap ∧ (L i).length ≤ cap ∧ cap ≤ maxLen := by
  obtain ⟨ao, cap, hv, h1, h2, _⟩ := (h.rows i hi).form
  exact ⟨ao, cap, hv, h1, h2⟩
theorem SemAt.byCell (h : SemAt W M vr L s vq) {i : Nat} (hi : i < M.N) : W.cell? ⟨M.bb, i, none⟩ = some (vr i) := by rw [cell_of_heap h.byo]; exact fnRow_get _ _ _ hi
theorem SemAt.viaCell (h : SemAt W M vr L s vq) {v : Nat} (hv : v < M.K) : W.cell? ⟨M.vb, v, none⟩ = some (vr (M.N + v)) := by rw [cell_of_heap h.vio]; exact fnRow_get _ _ _ hv
end
end Go.Proofs.YtaabmkebbnkonaaDoor
/-
  A rule more in a row of a maker's: what memory is like behind the append and the store.
-/
set_option linter.unusedVariables false
set_option linter.unusedSimpArgs false
set_option linter.unnecessarySimpa false
namespace Go.Proofs.YtaabmkebbnkonaaDoor
open Go.ChangeShapes Go.WideShapes Go.ChangeAt Go.RowKit Go.Deep SetPlain
theorem rlInfo : (Tryd.prog.info? 29).map (fun i => (i.zero, i.size, i.bytes)) = some (some (.agg #[.int .i64 0, .int .i64 0, .int .i64 0, .int .i64 0, .int .i64 0, .int .i64 0]), 6, 48) := by kernel_rfl
/-- A maker on its way with a rule's box beside it. -/
structure PutAt (W0 : World) (M : Mk) (vr0 vr : Nat → Value) (L : Nat → List Rl) (vq0 : Value) (x : Nat) (r : Rl) (s : St) (vq : Value) (W : World) : Prop where
  at_ : SemAt W M vr L s vq
  step : SemStep M vr0 vr vq0 vq W0 W
  rule : RlAt W x r
  nx : ¬ semFp M vr vq x
def setV (vr : Nat → Value) (g : Nat) (v : Value) : Nat → Value := fun i => if i = g then v else vr i
def addL (L : Nat → List Rl) (g : Nat) (r : Rl) : Nat → List Rl := fun i => if i = g then L i ++ [r] else L i
def rowPlace (M : Mk) (g : Nat) (p : Addr) : Prop := (g < M.N ∧ p = ⟨M.bb, g, none⟩) ∨ (M.N ≤ g ∧ p = ⟨M.vb, g - M.N, none⟩)
/-- What the regions read behind an append. -/
structure PutS (M : Mk) (vr : Nat → Value) (x : Nat) (r : Rl) (W : World) : Prop where
  by_ : W.cell? ⟨M.mb, 1, none⟩ = some (.slice (some ⟨M.bb, 0, none⟩) M.N M.N)
  via_ : W.cell? ⟨M.mb, 2, none⟩ = some (.slice (some ⟨M.vb, 0, none⟩) M.K M.K)
  rule : RlAt W x r
  bc : ∀ i, i < M.N → W.cell? ⟨M.bb, i, none⟩ = some (vr i)
  vc : ∀ i, i < M.K → W.cell? ⟨M.vb, i, none⟩ = some (vr (M.N + i))
  bf : ∀ i, W.frozen? ⟨M.bb, i, none⟩ = false
  vf : ∀ i, W.frozen? ⟨M.vb, i, none⟩ = false
section
variable {W0 W W1 W2 : World} {M : Mk} {vr0 vr : Nat → Value} {L : Nat → List Rl} {s : St} {vq0 vq : Value} {x : Nat} {r : Rl} {g : Nat} {v : Value}
theorem SemMem.growRow {In : Nat → Nat → Bool} {tot steps : Nat} {q : List (Nat × Nat)} (h : SemMem W M vr L In tot steps vq q) (hg : g < M.N + M.K)
    (ho : TailRow W2 29 6 v ((L g).length + 1) (rlCells (L g) ++ r.cells)) (hk : Keeps (fun k => (vr g).ownBlock = some k) W W2)
    (hfp : ∀ k, v.ownBlock = some k → (vr g).ownBlock = some k ∨ W.heap.size ≤ k) {p : Addr} (hp : rowPlace M g p) :
    SemMem (W2.setCell p v) M (setV vr g v) (addL L g r) In tot steps vq q ∧ SemStep M vr (setV vr g v) vq vq W (W2.setCell p v) := by
  have hown : ∀ (k : Nat) (c : Array Value) (t : TypeId) (f : Nat × Nat), W.heap[k]? = some (.cells c t f) → t ≠ 29 → W2.heap[k]? = some (.cells c t f) := fun k c t f hc ht => (hk.block k (lt_of_heap hc) ((h.rows g hg).type hc ht)).trans hc
  have hb2 := hown _ _ _ _ h.byo (by decide)
  have hv2 := hown _ _ _ _ h.vio (by decide)
  have hpb : p.block = M.bb ∨ p.block = M.vb := hp.imp (fun x => by rw [x.2]) (fun x => by rw [x.2])
  have hty : ∃ c, W2.heap[p.block]? = some (.cells c 38 (0, 0)) := by
    rcases hpb with e | e <;> rw [e]
    · exact ⟨_, hb2⟩
    · exact ⟨_, hv2⟩
  obtain ⟨cp, hcp⟩ := hty
  have h2 : Keeps (fun k => k = p.block) W2 (W2.setCell p v) := Keeps.setCell (S := fun k => k = p.block) (Keeps.refl _ W2) (p := p) (fun _ => rfl) v
  have hoth : ∀ (k : Nat) (c : Array Value) (t : TypeId) (f : Nat × Nat), W2.heap[k]? = some (.cells c t f) → t ≠ 38 → (W2.setCell p v).heap[k]? = some (.cells c t f) := fun k c t f hc ht => (h2.block k (lt_of_heap hc) (ne_of_type hc hcp ht)).trans hc
  have hb : ∀ (k : Nat) (c : Array Value) (t : TypeId) (f : Nat × Nat), W.heap[k]? = some (.cells c t f) → t ≠ 29 → t ≠ 38 → (W2.setCell p v).heap[k]? = some (.cells c t f) := fun k c t f hc ht ht2 => hoth _ _ _ _ (hown _ _ _ _ hc ht) ht2
  have hm := h.mko
  have hmo := h.moo
  unfold mkObj at hm
  unfold moObj at hmo
  have hf := h.fam
  have hlt : ∀ i, i < M.N + M.K → ∀ k, (vr i).ownBlock = some k → k < W.heap.size := fun i hi k hk => by obtain ⟨c, hc⟩ := (h.rows i hi).lt k hk; exact lt_of_heap hc
  refine ⟨⟨hb _ _ _ _ hm (by decide) (by decide), hb _ _ _ _ hmo (by decide) (by decide),
    ⟨hb _ _ _ _ hf.obj (by decide) (by decide), hf.rows.imp (fun F h1 => ⟨hb _ _ _ _ h1.1 (by decide) (by decide), h1.2⟩), fun i hi => (hf.row i hi).imp (fun cur h1 => ⟨hb _ _ _ _ h1.1 (by decide) (by decide), h1.2⟩), hf.inj, hf.out, hf.hR, hf.hC⟩,
    ?_, ?_, fun i hi => ?_, fun i j hi hj k hik hjk => ?_, ?_, h.hP, h.hK, h.bv⟩, ⟨?_, fun k hk => ?_⟩⟩
  · rcases hp with ⟨hgn, rfl⟩ | ⟨hgn, rfl⟩
    · rw [heap_set hb2, fnRow_set _ _ _ _ hgn]; rfl
    · rw [h2.block _ (lt_of_heap hb2) h.bv, hb2]
      congr 2
      exact fnRow_congr fun j hj => by unfold setV; rw [if_neg (by omega)]
  · rcases hp with ⟨hgn, rfl⟩ | ⟨hgn, rfl⟩
    · rw [h2.block _ (lt_of_heap hv2) (fun e => h.bv e.symm), hv2]
      congr 2
      exact fnRow_congr fun j hj => by unfold setV; rw [if_neg (by omega)]
    · rw [heap_set hv2, fnRow_set _ _ _ _ (by omega)]
      congr 2
      refine fnRow_congr fun j hj => ?_
      unfold setV
      by_cases e : j = g - M.N
      · rw [if_pos e, if_pos (by omega)]
      · rw [if_neg e, if_neg (by omega)]
  · by_cases e : i = g
    · subst e
      have e1 : setV vr i v i = v := if_pos rfl
      have e2 : addL L i r i = L i ++ [r] := if_pos rfl
      rw [e1, e2, rlCells_append, List.length_append]
      have : rlCells [r] = r.cells := by simp [rlCells]
      rw [this]
      refine ho.keeps h2 (fun k x e3 => ?_)
      subst e3
      exact ho.type hcp (by decide) x
    · have e1 : setV vr g v i = vr i := if_neg e
      have e2 : addL L g r i = L i := if_neg e
      rw [e1, e2]
      refine ((h.rows i hi).keeps hk (fun k x y => e (h.inj i g hi hg k x y))).keeps h2 (fun k x e3 => ?_)
      subst e3
      exact ((h.rows i hi).keeps hk (fun k x y => e (h.inj i g hi hg k x y))).type hcp (by decide) x
  · unfold setV at hik hjk
    by_cases ei : i = g
    · rw [if_pos ei] at hik
      by_cases ej : j = g
      · omega
      · rw [if_neg ej] at hjk
        rcases hfp k hik with y | y
        · have := h.inj g j hg hj k y hjk; omega
        · have := hlt j hj k hjk; omega
    · rw [if_neg ei] at hik
      by_cases ej : j = g
      · rw [if_pos ej] at hjk
        rcases hfp k hjk with y | y
        · have := h.inj i g hi hg k hik y; omega
        · have := hlt i hi k hik; omega
      · rw [if_neg ej] at hjk
        exact h.inj i j hi hj k hik hjk
  · have hq := h.que
    refine (hq.keeps hk (fun k x y => ?_)).keeps h2 (fun k x e3 => ?_)
    · obtain ⟨c, hc⟩ := hq.lt k x
      exact (h.rows g hg).type hc (by decide) y
    · subst e3
      refine (hq.keeps hk (fun k x y => ?_)).type hcp (by decide) x
      obtain ⟨c, hc⟩ := hq.lt k x
      exact (h.rows g hg).type hc (by decide) y
  · refine Keeps.setCell (hk.mono (fun k _ x => .inr (.inr (.inr (.inr (.inr (.inl ⟨g, hg, x⟩))))))) (fun _ => ?_) v
    rcases hpb with e | e <;> rw [e]
    · exact .inr (.inr (.inr (.inl rfl)))
    · exact .inr (.inr (.inr (.inr (.inl rfl))))
  · rcases hk with x | x | x | x | x | ⟨i, hi, x⟩ | x
    · exact .inl (.inl x)
    · exact .inl (.inr (.inl x))
    · exact .inl (.inr (.inr (.inl x)))
    · exact .inl (.inr (.inr (.inr (.inl x))))
    · exact .inl (.inr (.inr (.inr (.inr (.inl x)))))
    · unfold setV at x
      by_cases e : i = g
      · rw [if_pos e] at x
        exact (hfp k x).imp (fun y => .inr (.inr (.inr (.inr (.inr (.inl ⟨g, hg, y⟩)))))) id
      · rw [if_neg e] at x
        exact .inl (.inr (.inr (.inr (.inr (.inr (.inl ⟨i, hi, x⟩))))))
    · exact .inl (.inr (.inr (.inr (.inr (.inr (.inr x))))))
theorem PutAt.move {vr' : Nat → Value} {L' : Nat → List Rl} {s' : St} {vq' : Value} {W' : World} (h : PutAt W0 M vr0 vr L vq0 x r s vq W) (ha : SemAt W' M vr' L' s' vq') (hs : SemStep M vr vr' vq vq' W W') : PutAt W0 M vr0 vr' L' vq0 x r s' vq' W' := by
  obtain ⟨r0, r1, r2, r3, r4, r5⟩ := h.rule
  obtain ⟨h1, h2, h3⟩ := hs.foreign h.nx (lt_of_cell r0)
  have hc : ∀ i, W'.cell? ⟨x, i, none⟩ = W.cell? ⟨x, i, none⟩ := fun i => World.cell?_of_block h1
  exact ⟨ha, h.step.trans hs, ⟨(hc 0).trans r0, (hc 1).trans r1, (hc 2).trans r2, (hc 3).trans r3, (hc 4).trans r4, (hc 5).trans r5⟩, h2⟩
theorem PutAt.tick (h : PutAt W0 M vr0 vr L vq0 x r s vq W) : PutAt W0 M vr0 vr L vq0 x r s.tick vq (W.setCell ⟨M.mo, 3, none⟩ (.int .i64 (s.steps + 1 : Nat))) := h.move h.at_.tick.1 h.at_.tick.2
theorem PutAt.quiet {W' : World} (h : PutAt W0 M vr0 vr L vq0 x r s vq W) (hk : Keeps (fun _ => False) W W') : PutAt W0 M vr0 vr L vq0 x r s vq W' := h.move (h.at_.keeps hk) (SemStep.quiet hk)
theorem PutAt.box (h : SemAt W M vr L s vq) (r : Rl) : PutAt W M vr vr L vq W.heap.size r s vq (W.alloc (ruleObj r)) := by
  have hk : Keeps (fun _ => False) W (W.alloc (ruleObj r)) := (Keeps.refl _ _).alloc _
  refine ⟨h.keeps hk, SemStep.quiet hk, ?_, fun hx => ?_⟩
  · unfold ruleObj RlAt; refine ⟨?_, ?_, ?_, ?_, ?_, ?_⟩ <;> simp
  · have := SemMem.lt h _ hx
    omega
theorem PutAt.rd (h : PutAt W0 M vr0 vr L vq0 x r s vq W) : PutS M vr x r W :=
  ⟨h.at_.mcells.2.1, h.at_.mcells.2.2.1, h.rule, fun i hi => h.at_.byCell hi, fun i hi => h.at_.viaCell hi, fun i => free_of_heap h.at_.byo i, fun i => free_of_heap h.at_.vio i⟩
/-- Behind an append to a row: what is read, and what the store leaves. -/
theorem PutAt.grow (h : PutAt W0 M vr0 vr L vq0 x r s vq W) (hg : g < M.N + M.K) (k1 : Keeps (fun _ => False) W W1)
    (ho : TailRow W2 29 6 v ((L g).length + 1) (rlCells (L g) ++ r.cells)) (hgr : W1.grownBy W2 (vr g).ownBlock)
    (hfp : ∀ k, v.ownBlock = some k → (vr g).ownBlock = some k ∨ W1.heap.size ≤ k) :
    PutS M vr x r W2 ∧ ∀ p, rowPlace M g p → Hid (PutAt W0 M vr0 (setV vr g v) (addL L g r) vq0 x r s vq (W2.setCell p v)) := by
  have q := h.quiet k1
  have kg := keeps_grown hgr
  have hnx : (vr g).ownBlock ≠ some x := fun e => q.nx (.inr (.inr (.inr (.inr (.inr (.inl ⟨g, hg, e⟩))))))
  have hx : W2.heap[x]? = W1.heap[x]? := kg.block x (lt_of_cell q.rule.1) hnx
  have hc : ∀ i, W2.cell? ⟨x, i, none⟩ = W1.cell? ⟨x, i, none⟩ := fun i => World.cell?_of_block hx
  obtain ⟨r0, r1, r2, r3, r4, r5⟩ := q.rule
  have hm := q.at_.mko
  unfold mkObj at hm
  have rg := q.at_.rows g hg
  have om := (kg.block _ (lt_of_heap hm) (rg.type hm (by decide))).trans hm
  have ob := (kg.block _ (lt_of_heap q.at_.byo) (rg.type q.at_.byo (by decide))).trans q.at_.byo
  have ov := (kg.block _ (lt_of_heap q.at_.vio) (rg.type q.at_.vio (by decide))).trans q.at_.vio
  refine ⟨⟨by rw [cell_of_heap om]; rfl, by rw [cell_of_heap om]; rfl, ⟨(hc 0).trans r0, (hc 1).trans r1, (hc 2).trans r2, (hc 3).trans r3, (hc 4).trans r4, (hc 5).trans r5⟩,
    fun i hi => by rw [cell_of_heap ob]; exact fnRow_get _ _ _ hi, fun i hi => by rw [cell_of_heap ov]; exact fnRow_get _ _ _ hi, fun i => free_of_heap ob i, fun i => free_of_heap ov i⟩, fun p hp => ?_⟩
  obtain ⟨a, b⟩ := SemMem.growRow q.at_ hg ho kg hfp hp
  exact q.move a b
end
end Go.Proofs.YtaabmkebbnkonaaDoor
