/-
  A table that is nil; fresh texts are principals; a row's texts twice; an append in a region that draws.
-/
import Derived.Test.YtonkfkgbmlcceaaNameLives
import Derived.Test.YtonkfkgbmlcceaaNameRef
set_option linter.unusedVariables false
set_option linter.unusedSimpArgs false
set_option linter.unnecessarySimpa false
namespace Go.Proofs.Ytonkfkgbmlcceaa
open Go.ChangeShapes Go.WideShapes Go.ChangeAt Go.RowKit Go.Deep
theorem dec_digits : ∀ (d n : Nat), 1 ≤ d → n < 10 ^ d → (decL n).length ≤ d ∧ ∀ c ∈ decL n, 48 ≤ c.toNat ∧ c.toNat ≤ 57
  | 0, n, h, _ => absurd h (by omega)
  | d + 1, n, _, hn => by
    by_cases h10 : n < 10
    · rw [decL_lt h10]
      refine ⟨by simp, fun c hc => ?_⟩
      obtain rfl : c = digU n := by simpa using hc
      rw [digU_toNat h10]; omega
    · have hd : 1 ≤ d := by
        rcases Nat.eq_zero_or_pos d with h | h
        · subst h; simp at hn; omega
        · exact h
      rw [Nat.pow_succ] at hn
      obtain ⟨h1, h2⟩ := dec_digits d (n / 10) hd (by omega)
      rw [decL_ge h10]
      refine ⟨by rw [List.length_append]; simp only [List.length_cons, List.length_nil]; omega, fun c hc => ?_⟩
      rcases List.mem_append.1 hc with hc | hc
      · exact h2 c hc
      · obtain rfl : c = digU (n % 10) := by simpa using hc
        rw [digU_toNat (by omega)]; omega
theorem fresh_prin {k : Nat} (hk : k < 10 ^ 7) : isB 65 90 ⟨(xL k).toArray⟩ = true := by
  obtain ⟨h1, h2⟩ := dec_digits 7 k (by decide) hk
  have hsz : (ByteArray.mk (xL k).toArray).size = (decL k).length + 1 := by show (xL k).toArray.size = _; unfold xL; simp
  have hbt : ∀ i, btN ⟨(xL k).toArray⟩ i = ((xL k).getD i 0).toNat := fun i => by unfold btN; simp
  unfold isB
  rw [hsz, hbt 0]
  have h0 : (((xL k).getD 0 0).toNat : Int) = 88 := rfl
  rw [h0, decide_eq_true (show 1 ≤ (decL k).length + 1 by omega), decide_eq_true (show (decL k).length + 1 ≤ 8 by omega), show inB 65 90 88 = true from by decide]
  show allB _ _ = true
  unfold allB
  rw [List.all_eq_true]
  intro j hj
  have hj' := List.mem_range.1 hj
  rw [hbt j]
  rcases Nat.eq_zero_or_pos j with h | h
  · subst h; rfl
  · obtain ⟨i, rfl⟩ : ∃ i, j = i + 1 := ⟨j - 1, by omega⟩
    have hi : i < (decL k).length := by omega
    have e : (xL k).getD (i + 1) 0 = (decL k)[i] := by
      unfold xL
      rw [List.getD_cons_succ, List.getD_eq_getElem?_getD, List.getElem?_eq_getElem hi]
      rfl
    rw [e]
    have := h2 _ (List.getElem_mem hi)
    unfold letB inB
    rw [decide_eq_true (show (48 : Int) ≤ (((decL k)[i]).toNat : Int) by omega), decide_eq_true (show (((decL k)[i]).toNat : Int) ≤ 57 by omega)]
    rfl
/-- A row's texts, from its end and from its head. -/
def twS (l : List Str) : Nat → List Str
  | 0 => []
  | i + 1 => twS l i ++ [l.getD (l.length - 1 - i) [], l.getD i []]
theorem tw_len (l : List Str) : ∀ i, (twS l i).length = 2 * i
  | 0 => rfl
  | i + 1 => by unfold twS; rw [List.length_append, tw_len l i]; simp only [List.length_cons, List.length_nil]; omega
theorem tw_mem (l : List Str) : ∀ (i : Nat) (x : Str), i ≤ l.length → (x ∈ twS l i → x ∈ l) ∧ ∀ j, j < i → l[j]? = some x → x ∈ twS l i
  | 0, x, _ => ⟨(by intro h; cases h), fun j hj => absurd hj (Nat.not_lt_zero _)⟩
  | i + 1, x, hi => by
    obtain ⟨h1, h2⟩ := tw_mem l i x (by omega)
    have hg : ∀ q, q < l.length → l[q]? = some (l.getD q []) := fun q hq => by rw [List.getD_eq_getElem?_getD, List.getElem?_eq_getElem hq]; rfl
    refine ⟨fun h => ?_, fun j hj hx => ?_⟩
    · unfold twS at h
      rcases List.mem_append.1 h with h | h
      · exact h1 h
      · simp only [List.mem_cons, List.not_mem_nil, or_false] at h
        rcases h with rfl | rfl
        · exact List.mem_of_getElem? (hg _ (by omega))
        · exact List.mem_of_getElem? (hg _ (by omega))
    · unfold twS
      rw [List.mem_append]
      rcases Nat.lt_or_eq_of_le (Nat.le_of_lt_succ hj) with h | h
      · exact .inl (h2 j h hx)
      · subst h
        rw [hg j (by omega)] at hx
        rw [← Option.some.inj hx]
        exact .inr (by simp)
theorem tw_tab (l : List Str) : tabL (twS l l.length) = tabL l := (tab_eq (tab_rises _) (fun x => by
  rw [tab_mem]
  constructor
  · intro h
    obtain ⟨j, hj, e⟩ := List.mem_iff_getElem.1 h
    exact (tw_mem l l.length x (Nat.le_refl _)).2 j hj (by rw [List.getElem?_eq_getElem hj, e])
  · exact (tw_mem l l.length x (Nat.le_refl _)).1))
/-- One step of a region that draws its order: an append to a row of the program's own. -/
theorem step_append_own {P : Program} {ops : Array Oper} {o : Oper} {a : Act} {w : World} {K : Act → World → Prop} {Q : Exit → Act → World → Prop} {E : Prop}
    (hg : o.guard = none) (s x : Operand) (t : TypeId) (hop : o.op = Op.call { callee := Callee.builtin Builtin.append, args := #[s, x], argTypes := #[t, t] })
    (base : Nat) (e : TypeId) (i : TypeInfo) (z : Value) (size bytes : Nat) (ht : P.underlying t = some (.slice e)) (hi : P.info? e = some i) (hz : i.zero = some z)
    (hsize : i.size = size) (hby : i.bytes = bytes) (hzs : z.cells.size = size) (hsz : 0 < size)
    (v : Value) (n : Nat) (xs : List Value) (hs : a.eval s = v) (hown : w.ownsRow base e size v n xs)
    (ad : Addr) (m c : Nat) (news : List Value) (hx : a.eval x = .slice (some ad) m c) (hl : news.length = m * size) (hnews : ∀ j u, news[j]? = some u → w.cell? (ad.add j) = some u) (h1 : ∀ u ∈ news, u.oneCell' = true)
    (h63 : n + m ≤ maxLen) (hbytes : (n + m) * bytes ≤ 140737488355328) (hbase : base ≤ w.heap.size)
    (hK : ∀ v' w', w'.ownsRow base e size v' (n + m) (xs ++ news) → w.grownBy w' v.ownBlock → K (a.put o.dst v') w') :
    if Region.wanted o (yielded ops a.tmps) = true then Oper.wp P o a w K Q else E := by
  have hw : Region.wanted o (yielded ops a.tmps) = true := by simp [Region.wanted, hg]
  rw [if_pos hw]
  obtain ⟨v', w', hr, r1, r2, _⟩ := run_append_own (P := P) w base t o.type e i z size bytes ht hi hz hsize hby hzs hsz v n xs hown ad m c news hl hnews h1 h63 hbytes hbase
  unfold Oper.wp
  simp [execOp, hop, resolve, invoke, builtin, hs, hx, hr, Result.andThen]
  exact hK v' w' r1 r2
set_option maxRecDepth 100000
set_option maxHeartbeats 3200000
theorem nil_len (W : World) : Calls Try.prog 19 #[.pointer none] W fun e W' => e = .returned (.int .i64 0) ∧ W = W' := by
  go_enter Try.func19, Try.ntmps19
  go_wp2_with fail
  go_ret
  exact ⟨rfl, rfl⟩
theorem nil_find (W : World) (s : Value) : Calls Try.prog 15 #[.pointer none, s] W fun e W' => e = .returned (.int .i64 (-1)) ∧ W = W' := by
  go_enter Try.func15, Try.ntmps15
  go_wp2_with fail
  go_ret
  exact ⟨rfl, rfl⟩
theorem nil_at (W : World) : Calls Try.prog 16 #[.pointer none, .int .i64 0] W fun e W' => e = .returned (.string ⟨#[]⟩) ∧ W = W' := by
  have H := Lib.hid (nil_len W)
  go_enter Try.func16, Try.ntmps16
  go_wp2_with fail
  refine H.out.mono ?_
  rintro e w' ⟨rfl, rfl⟩
  go_wp2_with fail
  go_ret
  exact ⟨rfl, rfl⟩
theorem nil_all (W : World) : Calls Try.prog 18 #[.pointer none] W fun e W' => e = .returned (.slice none 0 0) ∧ W = W' := by
  go_enter Try.func18, Try.ntmps18
  go_wp2_with fail
  go_ret
  exact ⟨rfl, rfl⟩
theorem nil_with {W : World} {m : List Str} {x : Value} (hr : SrcS W x m) (hn : m.length ≤ 100000) :
    Calls Try.prog 13 #[.pointer none, x] W fun e W' => ∃ p', e = .returned (.pointer (some ⟨p', 0, none⟩)) ∧ Hid (Keeps (fun _ => False) W W' ∧ Tab W' p' (tabL m)) := by
  have HA := Lib.hid (nil_all W)
  have HR := Lib.hid hr
  have HO : Hid (OwnS W.heap.size W (.slice none 0 0) []) := World.ownsRow_nil _ _ _ _
  clear hr
  go_enter Try.func13, Try.ntmps13
  go_wp2_with fail
  refine HA.out.mono ?_
  rintro e w1 ⟨rfl, rfl⟩
  go_wp2_with (at_builtin; refine app_src rfl _ _ rfl W.heap.size _ [] rfl HO.out _ m rfl HR.out (by simp; omega) (Nat.le_refl _) ?_)
  intro v2 w2 ho2 hk2
  have HK2 : Hid (Keeps (fun _ => False) W w2) := (Keeps.refl (fun _ => False) W).trans_new hk2 (fun q hq e => by omega)
  have HN := Lib.hid (names_new (show ReadsS w2 v2 m from ho2.reads) hn)
  clear ho2 hk2 HA HR HO
  go_wp2_with fail
  refine HN.out.mono ?_
  rintro e w3 ⟨p', rfl, h3⟩
  have HE : Hid (Keeps (fun _ => False) W w3 ∧ Tab w3 p' (tabL m)) := ⟨HK2.out.trans h3.out.1, h3.out.2⟩
  clear h3 HN HK2
  go_wp2_with fail
  go_ret
  exact ⟨_, rfl, HE⟩
end Go.Proofs.Ytonkfkgbmlcceaa
