/-
 Where the law DrillRight stands among its four calls and two boxes.
-/
import Derived.Test.YtcdfpnlaklaafaaGreatDrillNil
set_option linter.unusedVariables false
set_option linter.unusedSimpArgs false
set_option linter.unnecessarySimpa false
namespace Go.Proofs.YtcdfpnlaklaafaaGreat
open Go.ChangeShapes Go.WideShapes Go.ChangeAt Go.RowKit Go.Deep
/-- Behind so many calls: the boxes, the policies that were drawn, and the drill that is at hand. -/
structure Nod (W w : World) (L0 SB UB : Nat) (S U : Obj) (X : Int) (p : Pol) (bs : List Nat) (vs : List (Value × Value × Value × Value)) (d : Option Nat) : Prop where
 K : Keeps (fun _ => False) W w
 l0 : L0 ≤ w.heap.size
 lW : W.heap.size ≤ L0
 lS : SB < L0
 lU : UB < L0
 hS : w.heap[SB]? = some S
 hU : w.heap[UB]? = some U
 box : ∀ b ∈ bs, w.heap[b]? = some (.cells #[.slice none 0 0, .slice none 0 0, .slice none 0 0, .slice none 0 0] 57) ∧ L0 ≤ b
 nd : bs.Nodup
 dr : ∀ b, d = some b → StB w 67 b X ∧ L0 ≤ b ∧ b ∉ bs
 pol : ∀ v ∈ vs, PolX w v.1 v.2.1 v.2.2.1 v.2.2.2 p (fun k => L0 ≤ k ∧ k ∉ bs ∧ d ≠ some k)
section
variable {W w : World} {L0 SB UB : Nat} {S U : Obj} {X : Int} {p : Pol} {bs : List Nat} {vs : List (Value × Value × Value × Value)} {d : Option Nat}
theorem Nod.box1 (h : Nod W w L0 SB UB S U X p bs vs d) : Nod W (w.alloc (.cells #[.slice none 0 0, .slice none 0 0, .slice none 0 0, .slice none 0 0] 57)) L0 SB UB S U X p (w.heap.size :: bs) vs d := by
 have hk : Keeps (fun _ => False) w (w.alloc (.cells #[.slice none 0 0, .slice none 0 0, .slice none 0 0, .slice none 0 0] 57)) := (Keeps.refl _ _).alloc _
 have hz := hk.size
 have hn : w.heap.size ∉ bs := fun hb => by have := lt_of_heap (h.box _ hb).1; omega
 refine ⟨h.K.trans hk, Nat.le_trans h.l0 hz, h.lW, h.lS, h.lU, (hk.block _ (lt_of_heap h.hS) (fun x => x)).trans h.hS, (hk.block _ (lt_of_heap h.hU) (fun x => x)).trans h.hU, fun b hb => ?_, List.nodup_cons.2 ⟨hn, h.nd⟩, fun b hb => ?_, fun v hv => ?_⟩
 · rcases List.mem_cons.1 hb with rfl | hb
   · exact ⟨(MapKept.heap_alloc w (.cells #[.slice none 0 0, .slice none 0 0, .slice none 0 0, .slice none 0 0] 57)).1, h.l0⟩
   · exact ⟨(hk.block _ (lt_of_heap (h.box b hb).1) (fun x => x)).trans (h.box b hb).1, (h.box b hb).2⟩
 · obtain ⟨q1, q2, q3⟩ := h.dr b hb
   refine ⟨q1.keeps hk (fun x => x), q2, fun hm => ?_⟩
   rcases List.mem_cons.1 hm with e | hm
   · have := lt_of_heap q1.1
     omega
   · exact q3 hm
 · refine (h.pol v hv).into hk (fun _ _ _ x => x) (fun q hq hp => ⟨hp.1, fun hm => ?_, hp.2.2⟩)
   rcases List.mem_cons.1 hm with e | hm
   · omega
   · exact hp.2.1 hm
theorem Nod.new (h : Nod W w L0 SB UB S U X p bs vs none) (hX : U64 X) : Nod W (w.alloc (.cells #[.int .u64 X] 67)) L0 SB UB S U X p bs vs (some w.heap.size) := by
 have hk : Keeps (fun _ => False) w (w.alloc (.cells #[.int .u64 X] 67)) := (Keeps.refl _ _).alloc _
 have hz := hk.size
 have hn : w.heap.size ∉ bs := fun hb => by have := lt_of_heap (h.box _ hb).1; omega
 refine ⟨h.K.trans hk, Nat.le_trans h.l0 hz, h.lW, h.lS, h.lU, (hk.block _ (lt_of_heap h.hS) (fun x => x)).trans h.hS, (hk.block _ (lt_of_heap h.hU) (fun x => x)).trans h.hU, fun b hb => ⟨(hk.block _ (lt_of_heap (h.box b hb).1) (fun x => x)).trans (h.box b hb).1, (h.box b hb).2⟩, h.nd, fun b hb => ?_, fun v hv => ?_⟩
 · obtain rfl := Option.some.inj hb
   exact ⟨⟨(MapKept.heap_alloc w _).1, hX⟩, h.l0, hn⟩
 · refine (h.pol v hv).into hk (fun _ _ _ x => x) (fun q hq hp => ⟨hp.1, hp.2.1, fun e => ?_⟩)
   have := Option.some.inj e
   omega
theorem Nod.drawn {w' : World} {b : Nat} {y : Int} {v0 v1 v2 v3 : Value} (h : Nod W w L0 SB UB S U X p bs vs (some b)) (hd : StB w' 67 b y ∧ Keeps (fun q => q = b) w w' ∧ PolX w' v0 v1 v2 v3 p (fun k => w.heap.size ≤ k)) : Nod W w' L0 SB UB S U X p bs (vs ++ [(v0, v1, v2, v3)]) none := by
 obtain ⟨-, hk, hp⟩ := hd
 have hz := hk.size
 obtain ⟨q1, q2, q3⟩ := h.dr b rfl
 have l0 := h.l0
 have lW := h.lW
 have lS := h.lS
 have lU := h.lU
 refine ⟨h.K.trans_new hk (fun q hq e => by have e : q = b := e; show False; omega), by omega, h.lW, h.lS, h.lU, (hk.block _ (lt_of_heap h.hS) (by show ¬ _ = _; omega)).trans h.hS, (hk.block _ (lt_of_heap h.hU) (by show ¬ _ = _; omega)).trans h.hU, fun c hc => ⟨(hk.block _ (lt_of_heap (h.box c hc).1) (fun e => q3 (by rw [← show c = b from e]; exact hc))).trans (h.box c hc).1, (h.box c hc).2⟩, h.nd, fun _ e => (by cases e), fun v hv => ?_⟩
 rcases List.mem_append.1 hv with hv | hv
 · exact (h.pol v hv).into hk (fun q hq hp e => hp.2.2 (by rw [show q = b from e])) (fun q hq hp => ⟨hp.1, hp.2.1, fun e => (by cases e)⟩)
 · obtain rfl := List.mem_singleton.1 hv
   exact hp.into (Keeps.refl (fun _ => False) _) (fun _ _ _ x => x) (fun q hq hp => ⟨by omega, fun hm => (by have := lt_of_heap (h.box q hm).1; omega), fun e => (by cases e)⟩)
/-- Behind both stores. -/
structure Fin2 (W w : World) (SB UB : Nat) (S U : Obj) (p : Pol) (ba bb : Nat) (v0 v1 v2 v3 u0 u1 u2 u3 : Value) : Prop where
 K : Keeps (fun _ => False) W w
 hS : w.heap[SB]? = some S
 hU : w.heap[UB]? = some U
 ha : w.heap[ba]? = some (.cells #[v0, v1, v2, v3] 57)
 hb : w.heap[bb]? = some (.cells #[u0, u1, u2, u3] 57)
 pa : PolX w v0 v1 v2 v3 p (fun _ => True)
 pb : PolX w u0 u1 u2 u3 p (fun _ => True)
theorem Nod.both {ba bb : Nat} {v0 v1 v2 v3 u0 u1 u2 u3 : Value} (h : Nod W w L0 SB UB S U X p bs [(v0, v1, v2, v3), (u0, u1, u2, u3)] none) (hb : bs = [ba, bb] ∨ bs = [bb, ba]) :
  w.heap[ba]? = some (.cells #[.slice none 0 0, .slice none 0 0, .slice none 0 0, .slice none 0 0] 57) ∧ ((((w.setCell ⟨ba, 0, none⟩ v0).setCell ⟨ba, 1, none⟩ v1).setCell ⟨ba, 2, none⟩ v2).setCell ⟨ba, 3, none⟩ v3).heap[bb]? = some (.cells #[.slice none 0 0, .slice none 0 0, .slice none 0 0, .slice none 0 0] 57) ∧ ((((w.setCell ⟨ba, 0, none⟩ v0).setCell ⟨ba, 1, none⟩ v1).setCell ⟨ba, 2, none⟩ v2).setCell ⟨ba, 3, none⟩ v3).heap[UB]? = some U ∧ Fin2 W ((((((((w.setCell ⟨ba, 0, none⟩ v0).setCell ⟨ba, 1, none⟩ v1).setCell ⟨ba, 2, none⟩ v2).setCell ⟨ba, 3, none⟩ v3).setCell ⟨bb, 0, none⟩ u0).setCell ⟨bb, 1, none⟩ u1).setCell ⟨bb, 2, none⟩ u2).setCell ⟨bb, 3, none⟩ u3) SB UB S U p ba bb v0 v1 v2 v3 u0 u1 u2 u3 := by
 have ha2 : ba ∈ bs := by rcases hb with rfl | rfl <;> simp
 have hb2 : bb ∈ bs := by rcases hb with rfl | rfl <;> simp
 have hne : ba ≠ bb := by
  have q := h.nd
  rcases hb with rfl | rfl
  · intro e
    rw [e] at q
    simp at q
  · intro e
    rw [e] at q
    simp at q
 have l0 := h.l0
 have lW := h.lW
 have lS := h.lS
 have lU := h.lU
 obtain ⟨a1, a2⟩ := h.box ba ha2
 obtain ⟨b1, b2⟩ := h.box bb hb2
 obtain ⟨s1, k1⟩ := sx4 a1 v0 v1 v2 v3
 have b3 := (k1.block bb (lt_of_heap b1) (by show ¬ _ = _; omega)).trans b1
 obtain ⟨s2, k2⟩ := sx4 b3 u0 u1 u2 u3
 have S1 := (k1.block SB (lt_of_heap h.hS) (by show ¬ _ = _; omega)).trans h.hS
 have U1 := (k1.block UB (lt_of_heap h.hU) (by show ¬ _ = _; omega)).trans h.hU
 have pp : ∀ v ∈ [(v0, v1, v2, v3), (u0, u1, u2, u3)], PolX ((((((((w.setCell ⟨ba, 0, none⟩ v0).setCell ⟨ba, 1, none⟩ v1).setCell ⟨ba, 2, none⟩ v2).setCell ⟨ba, 3, none⟩ v3).setCell ⟨bb, 0, none⟩ u0).setCell ⟨bb, 1, none⟩ u1).setCell ⟨bb, 2, none⟩ u2).setCell ⟨bb, 3, none⟩ u3) v.1 v.2.1 v.2.2.1 v.2.2.2 p (fun _ => True) := fun v hv => ((h.pol v hv).into k1 (fun q hq hp e => hp.2.1 (by rw [show q = ba from e]; exact ha2)) (fun _ _ p => p)).into k2 (fun q hq hp e => hp.2.1 (by rw [show q = bb from e]; exact hb2)) (fun _ _ _ => trivial)
 exact ⟨a1, b3, U1, (h.K.trans_new k1 (fun q hq e => by have e : q = ba := e; show False; omega)).trans_new k2 (fun q hq e => by have e : q = bb := e; show False; omega), (k2.block SB (lt_of_heap S1) (by show ¬ _ = _; omega)).trans S1, (k2.block UB (lt_of_heap U1) (by show ¬ _ = _; omega)).trans U1, (k2.block ba (lt_of_heap s1) (by show ¬ _ = _; omega)).trans s1, s2, pp (v0, v1, v2, v3) (by simp), pp (u0, u1, u2, u3) (by simp)⟩
end
end Go.Proofs.YtcdfpnlaklaafaaGreat
