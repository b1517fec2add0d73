/-
  The library's strings.Builder, read, and strings.Index of one byte: their contracts at this program.
-/
import Derived.Test.YtloidoekmicloaaMU
import Derived.Shelf.Strings.BuilderK
import Derived.Shelf.Strings.Search3
import Derived.Test.YtloidoekmicloaaCubeRight
set_option linter.unusedVariables false
set_option linter.unusedSimpArgs false
set_option linter.unnecessarySimpa false
namespace Go.Proofs.Ytloidoekmicloaa
open Go.Shelf
def shelflays169_ren : Go.Shelf.Ren := ⟨fun | 169 => 47 | n => n, fun | 70 => 76 | 9 => 9 | 0 => 0 | 72 => 79 | 37 => 77 | 127 => 107 | 3 => 3 | 5 => 5 | n => n, fun | n => n⟩
theorem shelflays169 : Go.Proofs.Lays.n169 Try.prog shelflays169_ren := {
  mixed := by kernel_rfl
  f169 := Try.func47.trans (congrArg some (by kernel_rfl))
  t0 := Try.underlying0
  a0 := Try.isAgg0
  z0 := Try.sizeOf0
  v0 := Try.zeroValue0
  t3 := Try.underlying3
  a3 := Try.isAgg3
  z3 := Try.sizeOf3
  v3 := Try.zeroValue3
  t9 := Try.underlying9
  a9 := Try.isAgg9
  z9 := Try.sizeOf9
  v9 := Try.zeroValue9
  t37 := Try.underlying77
  a37 := Try.isAgg77
  z37 := Try.sizeOf77
  v37 := Try.zeroValue77
  t70 := Try.underlying76
  a70 := Try.isAgg76
  z70 := Try.sizeOf76
  v70 := Try.zeroValue76
  t72 := Try.underlying79
  a72 := Try.isAgg79
  z72 := Try.sizeOf79
  v72 := Try.zeroValue79
  t127 := Try.underlying107
  a127 := Try.isAgg107
  z127 := Try.sizeOf107
  v127 := Try.zeroValue107 }
theorem shelfBuilder_Extra_169 : Builder.Extra Try.prog shelflays169_ren := {
  sizeBuilder := by kernel_rfl
  liesBuilder := by kernel_rfl
  t5 := Try.underlying5
  a5 := Try.isAgg5
  z5 := Try.sizeOf5
  v5 := Try.zeroValue5
  infoByte := by kernel_rfl
  cellsByte := by kernel_rfl
  sizeByte := by kernel_rfl
  neB5 := by decide }
open Go.RowKit in
theorem shelfBuilder_String_k (B b : Nat) (l : List UInt8) (w : World) (h : Lib.IsBuilderF 79 5 B b (Lib.byteCells l) w) (h0 : l ≠ []) :
    Calls Try.prog 47 #[.pointer (some ⟨b, 0, none⟩)] w fun e w' => e = .returned (.string ⟨l.toArray⟩) ∧ (Lib.IsBuilderF 79 5 B b (Lib.byteCells l) w' ∧ Below B w w' ∧ Lib.OthersKept 5 (some b) w w') := Any.Builder_String_k shelflays169 shelfBuilder_Extra_169 B b l w h h0
open Go.RowKit in
theorem shelfBuilder_String_empty_k (B b : Nat) (w : World) (h : Lib.IsBuilderF 79 5 B b [] w) (hBw : B ≤ w.heap.size) :
    Calls Try.prog 47 #[.pointer (some ⟨b, 0, none⟩)] w fun e w' => e = .returned (.string ⟨#[]⟩) ∧ (Lib.IsBuilderF 79 5 B b [] w' ∧ Below B w w' ∧ Lib.OthersKept 5 (some b) w w') := Any.Builder_String_empty_k shelflays169 shelfBuilder_Extra_169 B b w h hBw
open Go.RowKit in
theorem shelfBuilder_String_any_k (B b : Nat) (l : List UInt8) (w : World) (h : Lib.IsBuilderF 79 5 B b (Lib.byteCells l) w) (hBw : B ≤ w.heap.size) :
    Calls Try.prog 47 #[.pointer (some ⟨b, 0, none⟩)] w fun e w' => e = .returned (.string ⟨l.toArray⟩) ∧ (Lib.IsBuilderF 79 5 B b (Lib.byteCells l) w' ∧ Below B w w' ∧ Lib.OthersKept 5 (some b) w w') := Any.Builder_String_any_k shelflays169 shelfBuilder_Extra_169 B b l w h hBw
def shelflays217_ren : Go.Shelf.Ren := ⟨fun | 217 => 75 | 266 => 86 | n => n, fun | 9 => 9 | 5 => 5 | 3 => 3 | n => n, fun | n => n⟩
theorem shelflays217 : Go.Proofs.Lays.n217 Try.prog shelflays217_ren := {
  mixed := by kernel_rfl
  f217 := Try.func75.trans (congrArg some (by kernel_rfl))
  f266 := Try.func86.trans (congrArg some (by kernel_rfl))
  t3 := Try.underlying3
  a3 := Try.isAgg3
  z3 := Try.sizeOf3
  v3 := Try.zeroValue3
  t5 := Try.underlying5
  a5 := Try.isAgg5
  z5 := Try.sizeOf5
  v5 := Try.zeroValue5
  t9 := Try.underlying9
  a9 := Try.isAgg9
  z9 := Try.sizeOf9
  v9 := Try.zeroValue9 }
open Go.RowKit Go.Lib in
theorem shelfstringslite_IndexByte (s : ByteArray) (c : Int) (w : World) :
    Calls Try.prog 75 #[.string s, .int .u8 c] w fun e w' => e = .returned (.int .i64 (Lib.indexByte s.data.toList c.toNat.toUInt8)) ∧ w' = w := Any.stringslite_IndexByte shelflays217 s c w
def shelflays219_ren : Go.Shelf.Ren := ⟨fun | 219 => 63 | 217 => 75 | 225 => 76 | 224 => 77 | 267 => 78 | 266 => 86 | 314 => 87 | n => n, fun | 9 => 9 | 3 => 3 | 4 => 4 | 5 => 5 | 46 => 22 | 146 => 132 | 51 => 131 | n => n, fun | 1 => 0 | n => n⟩
theorem shelflays219 : Go.Proofs.Lays.n219 Try.prog shelflays219_ren := {
  mixed := by kernel_rfl
  f217 := Try.func75.trans (congrArg some (by kernel_rfl))
  f219 := Try.func63.trans (congrArg some (by kernel_rfl))
  f224 := Try.func77.trans (congrArg some (by kernel_rfl))
  f225 := Try.func76.trans (congrArg some (by kernel_rfl))
  f266 := Try.func86.trans (congrArg some (by kernel_rfl))
  f267 := Try.func78.trans (congrArg some (by kernel_rfl))
  f314 := Try.func87.trans (congrArg some (by kernel_rfl))
  t3 := Try.underlying3
  a3 := Try.isAgg3
  z3 := Try.sizeOf3
  v3 := Try.zeroValue3
  t4 := Try.underlying4
  a4 := Try.isAgg4
  z4 := Try.sizeOf4
  v4 := Try.zeroValue4
  t5 := Try.underlying5
  a5 := Try.isAgg5
  z5 := Try.sizeOf5
  v5 := Try.zeroValue5
  t9 := Try.underlying9
  a9 := Try.isAgg9
  z9 := Try.sizeOf9
  v9 := Try.zeroValue9
  t46 := Try.underlying22
  a46 := Try.isAgg22
  z46 := Try.sizeOf22
  v46 := Try.zeroValue22
  t51 := Try.underlying131
  a51 := Try.isAgg131
  z51 := Try.sizeOf131
  v51 := Try.zeroValue131
  t146 := Try.underlying132
  a146 := Try.isAgg132
  z146 := Try.sizeOf132
  v146 := Try.zeroValue132
  g1 := by kernel_rfl }
open Go.RowKit Go.Lib in
theorem shelfstringslite_Index_one (s : ByteArray) (c : UInt8) (w : World) :
    Calls Try.prog 63 #[.string s, .string ⟨#[c]⟩] w fun e w' => e = .returned (.int .i64 (Lib.indexByte s.data.toList c)) ∧ w' = w := Any.stringslite_Index_one shelflays219 s c w
def shelflays143_ren : Go.Shelf.Ren := ⟨fun | 143 => 43 | 219 => 63 | 217 => 75 | 225 => 76 | 224 => 77 | 267 => 78 | 266 => 86 | 314 => 87 | n => n, fun | 9 => 9 | 3 => 3 | 4 => 4 | 5 => 5 | 46 => 22 | 146 => 132 | 51 => 131 | n => n, fun | 1 => 0 | n => n⟩
theorem shelflays143 : Go.Proofs.Lays.n143 Try.prog shelflays143_ren := {
  mixed := by kernel_rfl
  f143 := Try.func43.trans (congrArg some (by kernel_rfl))
  f217 := Try.func75.trans (congrArg some (by kernel_rfl))
  f219 := Try.func63.trans (congrArg some (by kernel_rfl))
  f224 := Try.func77.trans (congrArg some (by kernel_rfl))
  f225 := Try.func76.trans (congrArg some (by kernel_rfl))
  f266 := Try.func86.trans (congrArg some (by kernel_rfl))
  f267 := Try.func78.trans (congrArg some (by kernel_rfl))
  f314 := Try.func87.trans (congrArg some (by kernel_rfl))
  t3 := Try.underlying3
  a3 := Try.isAgg3
  z3 := Try.sizeOf3
  v3 := Try.zeroValue3
  t4 := Try.underlying4
  a4 := Try.isAgg4
  z4 := Try.sizeOf4
  v4 := Try.zeroValue4
  t5 := Try.underlying5
  a5 := Try.isAgg5
  z5 := Try.sizeOf5
  v5 := Try.zeroValue5
  t9 := Try.underlying9
  a9 := Try.isAgg9
  z9 := Try.sizeOf9
  v9 := Try.zeroValue9
  t46 := Try.underlying22
  a46 := Try.isAgg22
  z46 := Try.sizeOf22
  v46 := Try.zeroValue22
  t51 := Try.underlying131
  a51 := Try.isAgg131
  z51 := Try.sizeOf131
  v51 := Try.zeroValue131
  t146 := Try.underlying132
  a146 := Try.isAgg132
  z146 := Try.sizeOf132
  v146 := Try.zeroValue132
  g1 := by kernel_rfl }
open Go.RowKit Go.Lib in
theorem shelfstrings_Index_one (s : ByteArray) (c : UInt8) (w : World) :
    Calls Try.prog 43 #[.string s, .string ⟨#[c]⟩] w fun e w' => e = .returned (.int .i64 (Lib.indexByte s.data.toList c)) ∧ w' = w := Any.strings_Index_one shelflays143 s c w
end Go.Proofs.Ytloidoekmicloaa
/-
  A cube as text.
-/
set_option linter.unusedVariables false
set_option linter.unusedSimpArgs false
set_option linter.unnecessarySimpa false
namespace Go.Proofs.Ytloidoekmicloaa
open Go.ChangeShapes Go.WideShapes Go.ChangeAt Go.RowKit Go.Deep NodePlain
/-- A builder that a call has made itself. -/
def Bld (B b : Nat) (l : List UInt8) (w : World) : Prop := Lib.IsBuilderF 79 5 B b (Lib.byteCells l) w
theorem Bld.start (w : World) : Bld w.heap.size w.heap.size [] (w.alloc (.cells #[.pointer none, .slice none 0 0] 79)) :=
  .inl ⟨Nat.le_refl _, .slice none 0 0, (MapKept.heap_alloc w _).1, World.ownsRowF_of (World.ownsRow_nil _ _ _ _), by simp [Value.ownBlock]⟩
section
set_option maxRecDepth 100000
set_option maxHeartbeats 1600000
theorem bcheck_fresh (b : Nat) (w : World) (h0 : w.cell? ⟨b, 0, none⟩ = some (.pointer none)) (hsh : w.shape? b = some (79, 2)) (hfz : w.frozen? ⟨b, 0, none⟩ = false) :
    Calls Try.prog 65 #[.pointer (some ⟨b, 0, none⟩)] w fun e w' => e = .returned (.tuple #[]) ∧ w' = w.setCell ⟨b, 0, none⟩ (.pointer (some ⟨b, 0, none⟩)) := by
  obtain ⟨j, hj, hjs⟩ := Option.map_eq_some_iff.1 shelfBuilder_Extra_169.sizeBuilder
  go_enter Try.func65, Try.ntmps65
  go_wp2
  rw [Lib.run_to_unsafe w ⟨b, 0, none⟩ Try.underlying76 Try.underlying122 hj (by rw [hjs]; decide) hsh (Nat.zero_lt_succ 1)]
  simp only [Result.andThen]
  rw [Oper.upon_value]
  go_wp2
  rw [run_callFunc_extern Try.func79 (by kernel_rfl) (by kernel_rfl) (by kernel_rfl) (e := Extern.AbiNoEscape.same) (by kernel_rfl)]
  rw [Lib.run_noEscape]
  simp only [Result.andThen]
  rw [Oper.upon_value]
  go_wp2
  rw [Lib.run_from_unsafe w ⟨b, 0, none⟩ Try.underlying122 Try.underlying76 hj hsh shelfBuilder_Extra_169.liesBuilder]
  simp only [Result.andThen]
  rw [Oper.upon_value]
  go_wp2
  go_end0
  exact ⟨rfl, rfl⟩
theorem bcheck_used (b : Nat) (w : World) (h0 : w.cell? ⟨b, 0, none⟩ = some (.pointer (some ⟨b, 0, none⟩))) :
    Calls Try.prog 65 #[.pointer (some ⟨b, 0, none⟩)] w fun e w' => e = .returned (.tuple #[]) ∧ w' = w := by
  obtain ⟨j, hj, hjs⟩ := Option.map_eq_some_iff.1 shelfBuilder_Extra_169.sizeBuilder
  go_enter Try.func65, Try.ntmps65
  go_wp2
  rw [Lib.run_neq_ptr_same w _ Try.underlying76 hj]
  go_wp2
  go_end0
  exact ⟨rfl, rfl⟩
theorem bcheck_spec (B b : Nat) (l : List UInt8) (w : World) (h : Bld B b l w) :
    Calls Try.prog 65 #[.pointer (some ⟨b, 0, none⟩)] w fun e w' => e = .returned (.tuple #[]) ∧ Hid (Lib.BuilderAtF 79 5 B b (.pointer (some ⟨b, 0, none⟩)) (Lib.byteCells l) w' ∧ Below B w w') := by
  rcases h with h | h
  · refine (bcheck_fresh b w h.cell0 h.shape h.frozen0).mono ?_
    rintro e w' ⟨rfl, rfl⟩
    exact ⟨rfl, h.used _, (Below.refl B w).setCell (p := ⟨b, 0, none⟩) h.1 _⟩
  · refine (bcheck_used b w h.cell0).mono ?_
    rintro e w' ⟨rfl, rfl⟩
    exact ⟨rfl, h, Below.refl B _⟩
theorem bwrite_spec (B b : Nat) (l s : List UInt8) (w : World) (h : Bld B b l w) (hlen : l.length + s.length ≤ 1000000) (hBw : B ≤ w.heap.size) :
    Calls Try.prog 46 #[.pointer (some ⟨b, 0, none⟩), .string ⟨s.toArray⟩] w fun e w' => (∃ v, e = .returned v) ∧ Hid (Bld B b (l ++ s) w' ∧ Below B w w') := by
  obtain ⟨i0, hi, hz0, hz1, hz2⟩ := info_parts shelfBuilder_Extra_169.infoByte
  have hsz : (⟨s.toArray⟩ : ByteArray).size = s.length := by simp [ByteArray.size]
  have HC := Lib.hid (bcheck_spec B b l w h)
  clear h
  go_enter Try.func46, Try.ntmps46
  go_wp2_with (go_at_call 65; refine HC.out.mono ?_)
  rintro e w1 ⟨rfl, h1⟩
  obtain ⟨⟨hB, v, hbk, hown, hne⟩, hb1⟩ := h1.out
  have c0 : w1.cell? ⟨b, 0, none⟩ = some (.pointer (some ⟨b, 0, none⟩)) := by rw [Lib.cell_of_heap hbk]; rfl
  have c1 : w1.cell? ⟨b, 1, none⟩ = some v := by rw [Lib.cell_of_heap hbk]; rfl
  clear HC h1
  have hbl : (Lib.byteCells l).length = l.length := Lib.byteCells_length l
  go_wp2_with (at_builtin; refine Lib.wpList_append_own_stringF _ rfl _ _ 77 9 rfl B 5 i0 Try.underlying77 Try.underlying9 hi hz0 hz1 hz2 _ _ _ rfl hown (⟨s.toArray⟩ : ByteArray) rfl ?c3 ?c4 ?c5 ?_)
  case c3 => unfold maxLen; omega
  case c4 => omega
  case c5 => have := hb1.size; omega
  intro v' w2 hown' hgrow _
  have hlt : b < w1.heap.size := lt_of_heap hbk
  have hb2 : w2.heap[b]? = some (.cells #[.pointer (some ⟨b, 0, none⟩), v] 79 (0, 0)) := by
    rw [hgrow.block b hlt (fun e => hne e.symm)]
    exact hbk
  have d0 : w2.cell? ⟨b, 0, none⟩ = some (.pointer (some ⟨b, 0, none⟩)) := by rw [Lib.cell_of_heap hb2]; rfl
  have d1 : w2.cell? ⟨b, 1, none⟩ = some v := by rw [Lib.cell_of_heap hb2]; rfl
  have f1 : w2.frozen? ⟨b, 1, none⟩ = false := Lib.frozen_of_heap hb2 1
  have HQ : Hid (Bld B b (l ++ s) (w2.setCell ⟨b, 1, none⟩ v') ∧ Below B w (w2.setCell ⟨b, 1, none⟩ v')) := by
    refine ⟨.inr (Lib.BuilderAtF.put (T := 79) (e := 5) hB hb2 (bs' := Lib.byteCells (l ++ s)) ?_ shelfBuilder_Extra_169.neB5), (hb1.grown hgrow (by have := hb1.size; omega) (fun k hk => (hown.lt k hk).1)).setCell (p := ⟨b, 1, none⟩) hB _⟩
    rw [Lib.byteCells_append, List.length_append, hbl, Lib.byteCells_length]
    exact hown'
  obtain ⟨ao, n', cap, rfl⟩ : ∃ ao n' cap, v' = .slice ao n' cap := by
    rcases hown'.2 with ⟨hv, _⟩ | ⟨g, cap, cur, fz, hv, _⟩
    · exact ⟨_, _, _, hv⟩
    · exact ⟨_, _, _, hv⟩
  clear hown hown' hgrow hb1 hbk hb2 c0 c1 hne
  go_wp2
  go_ret2
  exact ⟨⟨_, rfl⟩, HQ⟩
end
/-- A cube's number as text. -/
def chC (x : Int) : UInt8 := if x = 0 then 48 else if x = 1 then 49 else 45
def txtC (c : List Int) : List UInt8 := c.map chC
def printC (c : List Int) : List UInt8 := if rightC (c.length : Int) c then txtC c else []
section
variable {W : World}
set_option maxRecDepth 100000
set_option maxHeartbeats 1600000
theorem cprint_spec {v : Value} {l : List Int} (h : ReadsI W v l) (hl : l.length ≤ 1000000) (hx : ∀ x, x ∈ l → -9223372036854775808 ≤ x ∧ x ≤ 9223372036854775807) :
    Calls Try.prog 21 #[v] W fun e W' => e = .returned (.string ⟨(printC l).toArray⟩) ∧ Hid (Below W.heap.size W W') := by
  have HR1 := Lib.hid (cright_spec (vars := (l.length : Int)) (by omega) (by omega) h hx)
  obtain ⟨ao, cap, rfl, hcap, hr⟩ := h
  obtain ⟨n, hn⟩ : ∃ n, l.length = n := ⟨_, rfl⟩
  cases hright : rightC (l.length : Int) l with
  | false =>
    have e : printC l = [] := by unfold printC; rw [hright]; rfl
    rw [e]
    rw [hright] at HR1
    rw [hn] at HR1 ⊢
    clear hr hright e hx
    go_enter Try.func21, Try.ntmps21
    go_wp2_with (go_at_call 20; refine HR1.out.mono ?_; rintro e wA ⟨rfl, rfl⟩)
    clear HR1
    go_ret
    exact ⟨rfl, Below.refl _ _⟩
  | true =>
    have e : printC l = txtC l := by unfold printC; rw [hright]; rfl
    have H3 := Lib.hid (rightC_iff.1 hright).2.2.2
    have e2 : txtC l = txtC (l.take n) := by rw [← hn, List.take_length]
    rw [e, e2]
    rw [hright] at HR1
    rw [hn] at HR1 hcap hr hl ⊢
    have HL := Lib.hid hn
    have HR := Lib.hid hr
    have HK := Lib.hid (Bld.start W)
    have HB0 : Hid (Below W.heap.size W (W.alloc (.cells #[.pointer none, .slice none 0 0] 79))) := Lib.hid (Below.alloc (Below.refl _ W) (Nat.le_refl _) _)
    clear hr hright e hx hn e2
    go_enter Try.func21, Try.ntmps21
    go_wp2_with (go_at_call 20; refine HR1.out.mono ?_; rintro e wA ⟨rfl, rfl⟩)
    clear HR1
    go_loopg [13] n (fun g t wy => ∃ (i : Nat), i ≤ n ∧ g = n - i ∧ t = .int .i64 i ∧ Hid (Bld W.heap.size W.heap.size (txtC (l.take i)) wy ∧ Below W.heap.size W wy))
    case atStart => exact ⟨0, Nat.zero_le _, rfl, rfl, HK.out, HB0.out⟩
    case round =>
      clear HK HB0
      obtain ⟨i, hi, rfl, rfl, HH⟩ := hrel
      by_cases hlt : i < n
      · have hiI : (i : Int) < (n : Int) := by omega
        have hwi : IntKind.i64.wrap ((i : Int) + 1) = (i : Int) + 1 := IntWalk.i64_in _ (by omega)
        obtain ⟨b, off, rfl, hb, hc⟩ := HR.out (by omega)
        obtain ⟨x, hx⟩ : ∃ x, l[i]? = some x := ⟨_, List.getElem?_eq_getElem (by have := HL.out; omega)⟩
        have c := ((Keeps.of_below HH.out.2 (Nat.le_refl _) : Keeps (fun _ => False) W wr).cell (p := ⟨b, off + i, none⟩) hb (fun x => x)).trans (hc i x hx)
        have hicap : i < cap := by omega
        have hW : W.heap.size ≤ wr.heap.size := HH.out.2.size
        have HT : Hid (txtC (l.take (i + 1)) = txtC (l.take i) ++ [chC x]) := by
          unfold txtC
          rw [List.take_add_one, hx]
          simp only [Option.toList, List.map_append]
          rfl
        have e := H3.out x (List.mem_of_getElem? hx)
        have hlen : (txtC (l.take i)).length ≤ i := by unfold txtC; rw [List.length_map, List.length_take]; omega
        have HWR : Hid (∀ s : List UInt8, s.length = 1 → Calls Try.prog 46 #[.pointer (some ⟨W.heap.size, 0, none⟩), .string ⟨s.toArray⟩] wr fun e w' => (∃ v, e = .returned v) ∧ Hid (Bld W.heap.size W.heap.size (txtC (l.take i) ++ s) w' ∧ Below W.heap.size W w')) := by
          intro s hs
          refine (bwrite_spec _ _ _ s wr HH.out.1 (by omega) hW).mono ?_
          rintro e w' ⟨h1, h2⟩
          exact ⟨h1, h2.out.1, HH.out.2.trans h2.out.2⟩
        clear hc hx HH hlen hW
        rcases e with rfl | rfl | rfl
        · have HW0 := Lib.hid (HWR.out [48] rfl)
          clear HWR
          go_wp2_with (go_at_call 46; refine HW0.out.mono ?_; rintro e wA ⟨⟨_, rfl⟩, hA⟩)
          have HN : Hid (Bld W.heap.size W.heap.size (txtC (l.take (i + 1))) wA ∧ Below W.heap.size W wA) := by rw [HT.out]; exact hA
          clear HW0 HT hA
          go_roundg (n - (i + 1))
          case measure => omega
          case rel => exact ⟨i + 1, by omega, rfl, by go_num, HN⟩
        · have HW0 := Lib.hid (HWR.out [49] rfl)
          clear HWR
          go_wp2_with (go_at_call 46; refine HW0.out.mono ?_; rintro e wA ⟨⟨_, rfl⟩, hA⟩)
          have HN : Hid (Bld W.heap.size W.heap.size (txtC (l.take (i + 1))) wA ∧ Below W.heap.size W wA) := by rw [HT.out]; exact hA
          clear HW0 HT hA
          go_roundg (n - (i + 1))
          case measure => omega
          case rel => exact ⟨i + 1, by omega, rfl, by go_num, HN⟩
        · have HW0 := Lib.hid (HWR.out [45] rfl)
          clear HWR
          go_wp2_with (go_at_call 46; refine HW0.out.mono ?_; rintro e wA ⟨⟨_, rfl⟩, hA⟩)
          have HN : Hid (Bld W.heap.size W.heap.size (txtC (l.take (i + 1))) wA ∧ Below W.heap.size W wA) := by rw [HT.out]; exact hA
          clear HW0 HT hA
          go_roundg (n - (i + 1))
          case measure => omega
          case rel => exact ⟨i + 1, by omega, rfl, by go_num, HN⟩
      · obtain rfl : i = n := by omega
        have hiI : ¬ (i : Int) < (i : Int) := by omega
        have HS := Lib.hid (shelfBuilder_String_any_k _ _ _ _ HH.out.1 HH.out.2.size)
        have HB := Lib.hid HH.out.2
        clear HH
        go_wp2_with (go_at_call 47; refine HS.out.mono ?_; rintro e wA ⟨rfl, hA⟩)
        clear HS
        go_ret
        exact ⟨rfl, HB.out.trans hA.2.1⟩
end
end Go.Proofs.Ytloidoekmicloaa
