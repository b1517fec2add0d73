/-
  The walk of sem's Eval.
-/
import Derived.Test.YtckjgefpelnkoaaDoorSemEv
set_option linter.unusedVariables false
set_option linter.unusedSimpArgs false
set_option linter.unnecessarySimpa false
namespace Go.Proofs.YtckjgefpelnkoaaDoor
open Go.ChangeShapes Go.WideShapes Go.ChangeAt Go.RowKit Go.Deep SetPlain
theorem ruleRowInfo : (Tryd.prog.info? 23).map (fun i => (i.zero, i.size, i.bytes)) = some (some (.slice none 0 0), 1, 24) := by kernel_rfl
theorem ev_start {z : Nat} {w X : World} {M : Mk} (hP : M.P ≤ 64) (hK : M.K ≤ 64) (bv : M.bb ≠ M.vb) (hm : X.heap[M.mb]? = some (mkObj M (.slice none 0 0))) (ho : X.heap[M.mo]? = some (moObj M 0)) (hf : FamMem X M.fb M.bw M.rb M.N M.P (fun _ _ => false) 0)
    (hb : X.heap[M.bb]? = some (.cells (madeCells #[Value.slice none 0 0] M.N) 23 (0, 0))) (hv : X.heap[M.vb]? = some (.cells (madeCells #[Value.slice none 0 0] M.K) 23 (0, 0)))
    (base : Below z w X) (z1 : z ≤ M.mb) (z2 : z ≤ M.mo) (z3 : z ≤ M.bb) (z4 : z ≤ M.vb) (z5 : ∀ k, famFp M.fb M.bw M.rb M.N k → z ≤ k) :
    EvAt z w M (fun _ => .slice none 0 0) (fun _ => []) St.zero (.slice none 0 0) X := by
  refine ⟨⟨hm, ho, hf, ?_, ?_, fun i hi => TailRow.nil _ _ _, fun i j _ _ g hg => (by cases hg), TailRow.nil _ _ _, hP, hK, bv⟩, base, fun k hk => ?_⟩
  · rw [hb, madeRow]
  · rw [hv, madeRow]
  · rcases hk with x | x | x | x | x | ⟨i, hi, x⟩ | x
    · omega
    · omega
    · exact z5 k x
    · omega
    · omega
    · cases x
    · cases x
theorem ev_heap (w1 : World) (o1 o2 o3 o4 : Obj) : ((((w1.alloc o1).alloc o2).alloc o3).alloc o4).drew.heap[w1.heap.size]? = some o1 ∧ ((((w1.alloc o1).alloc o2).alloc o3).alloc o4).drew.heap[w1.heap.size + 1]? = some o2 ∧
    ((((w1.alloc o1).alloc o2).alloc o3).alloc o4).drew.heap[w1.heap.size + 1 + 1]? = some o3 ∧ ((((w1.alloc o1).alloc o2).alloc o3).alloc o4).drew.heap[w1.heap.size + 1 + 1 + 1]? = some o4 ∧ Keeps (fun _ => False) w1 ((((w1.alloc o1).alloc o2).alloc o3).alloc o4).drew := by
  have s1 : (w1.alloc o1).heap.size = w1.heap.size + 1 := by simp
  have s2 : ((w1.alloc o1).alloc o2).heap.size = w1.heap.size + 1 + 1 := by simp
  have s3 : (((w1.alloc o1).alloc o2).alloc o3).heap.size = w1.heap.size + 1 + 1 + 1 := by simp
  have a1 := heap_alloc_new w1 o1
  have a2 := heap_alloc_new (w1.alloc o1) o2
  have a3 := heap_alloc_new ((w1.alloc o1).alloc o2) o3
  have a4 := heap_alloc_new (((w1.alloc o1).alloc o2).alloc o3) o4
  rw [s1] at a2
  rw [s2] at a3
  rw [s3] at a4
  have b2 := fun i h => Below.heap_alloc (w1.alloc o1) o2 i h
  have b3 := fun i h => Below.heap_alloc ((w1.alloc o1).alloc o2) o3 i h
  have b4 := fun i h => Below.heap_alloc (((w1.alloc o1).alloc o2).alloc o3) o4 i h
  have k : Keeps (fun _ => False) w1 ((((w1.alloc o1).alloc o2).alloc o3).alloc o4).drew := (((((Keeps.refl _ _).alloc _).alloc _).alloc _).alloc _).drew
  exact ⟨(b4 _ (by omega)).trans ((b3 _ (by omega)).trans ((b2 _ (by omega)).trans a1)), (b4 _ (by omega)).trans ((b3 _ (by omega)).trans a2), (b4 _ (by omega)).trans a3, a4, k⟩
section
variable {w w1 : World} {P K N : Nat}
theorem fam_zero (hf : FamMem w1 w.heap.size (w.heap.size + 1) (fun i => w.heap.size + 2 + i) N P (fun _ _ => false) 0) : ∀ k, famFp w.heap.size (w.heap.size + 1) (fun i => w.heap.size + 2 + i) N k → w.heap.size ≤ k := fun k hk => by
  rcases hk with h | h | ⟨i, _, h⟩
  · omega
  · omega
  · have h' : k = w.heap.size + 2 + i := h
    omega
theorem ev_one (hP : P ≤ 64) (hK : K ≤ 64) (hN : P * K = N) (hf : FamMem w1 w.heap.size (w.heap.size + 1) (fun i => w.heap.size + 2 + i) N P (fun _ _ => false) 0) (hb : Below w.heap.size w w1) :
    Hid (EvAt w.heap.size w ⟨w1.heap.size + 1, w1.heap.size, w.heap.size, w.heap.size + 1, fun i => w.heap.size + 2 + i, w1.heap.size + 1 + 1, w1.heap.size + 1 + 1 + 1, P, K⟩ (fun _ => .slice none 0 0) (fun _ => []) St.zero (.slice none 0 0)
      ((((w1.alloc (.cells #[.pointer (some ⟨w.heap.size, 0, none⟩), .int .i64 P, .int .i64 K, .int .i64 0] 50)).alloc (.cells #[.pointer (some ⟨w1.heap.size, 0, none⟩), .slice (some ⟨w1.heap.size + 1 + 1, 0, none⟩) N N, .slice (some ⟨w1.heap.size + 1 + 1 + 1, 0, none⟩) K K, .slice none 0 0] 54)).alloc
        (.cells (madeCells #[Value.slice none 0 0] N) 23)).alloc (.cells (madeCells #[Value.slice none 0 0] K) 23)).drew) := by
  subst hN
  obtain ⟨h1, h2, h3, h4, k⟩ := ev_heap w1 (.cells #[.pointer (some ⟨w.heap.size, 0, none⟩), .int .i64 P, .int .i64 K, .int .i64 0] 50) (.cells #[.pointer (some ⟨w1.heap.size, 0, none⟩), .slice (some ⟨w1.heap.size + 1 + 1, 0, none⟩) (P * K) (P * K), .slice (some ⟨w1.heap.size + 1 + 1 + 1, 0, none⟩) K K, .slice none 0 0] 54) (.cells (madeCells #[Value.slice none 0 0] (P * K)) 23) (.cells (madeCells #[Value.slice none 0 0] K) 23)
  have hz := hb.size
  exact ev_start hP hK (by show w1.heap.size + 1 + 1 ≠ w1.heap.size + 1 + 1 + 1; omega) h2 h1 (hf.keeps k (fun _ _ x => x)) h3 h4 (hb.trans (k.below hz (fun _ _ x => x))) (by show _ ≤ w1.heap.size + 1; omega) hz (by show _ ≤ w1.heap.size + 1 + 1; omega) (by show _ ≤ w1.heap.size + 1 + 1 + 1; omega) (fam_zero hf)
theorem ev_two (hP : P ≤ 64) (hK : K ≤ 64) (hN : P * K = N) (hf : FamMem w1 w.heap.size (w.heap.size + 1) (fun i => w.heap.size + 2 + i) N P (fun _ _ => false) 0) (hb : Below w.heap.size w w1) :
    Hid (EvAt w.heap.size w ⟨w1.heap.size + 1, w1.heap.size, w.heap.size, w.heap.size + 1, fun i => w.heap.size + 2 + i, w1.heap.size + 1 + 1 + 1, w1.heap.size + 1 + 1, P, K⟩ (fun _ => .slice none 0 0) (fun _ => []) St.zero (.slice none 0 0)
      ((((w1.alloc (.cells #[.pointer (some ⟨w.heap.size, 0, none⟩), .int .i64 P, .int .i64 K, .int .i64 0] 50)).alloc (.cells #[.pointer (some ⟨w1.heap.size, 0, none⟩), .slice (some ⟨w1.heap.size + 1 + 1 + 1, 0, none⟩) N N, .slice (some ⟨w1.heap.size + 1 + 1, 0, none⟩) K K, .slice none 0 0] 54)).alloc
        (.cells (madeCells #[Value.slice none 0 0] K) 23)).alloc (.cells (madeCells #[Value.slice none 0 0] N) 23)).drew) := by
  subst hN
  obtain ⟨h1, h2, h3, h4, k⟩ := ev_heap w1 (.cells #[.pointer (some ⟨w.heap.size, 0, none⟩), .int .i64 P, .int .i64 K, .int .i64 0] 50) (.cells #[.pointer (some ⟨w1.heap.size, 0, none⟩), .slice (some ⟨w1.heap.size + 1 + 1 + 1, 0, none⟩) (P * K) (P * K), .slice (some ⟨w1.heap.size + 1 + 1, 0, none⟩) K K, .slice none 0 0] 54) (.cells (madeCells #[Value.slice none 0 0] K) 23) (.cells (madeCells #[Value.slice none 0 0] (P * K)) 23)
  have hz := hb.size
  exact ev_start hP hK (by show w1.heap.size + 1 + 1 + 1 ≠ w1.heap.size + 1 + 1; omega) h2 h1 (hf.keeps k (fun _ _ x => x)) h4 h3 (hb.trans (k.below hz (fun _ _ x => x))) (by show _ ≤ w1.heap.size + 1; omega) hz (by show _ ≤ w1.heap.size + 1 + 1 + 1; omega) (by show _ ≤ w1.heap.size + 1 + 1; omega) (fam_zero hf)
end
set_option maxRecDepth 100000 in
set_option maxHeartbeats 3200000 in
theorem seval_spec (p k : Int) (P K : Nat) (hP : Within p 64 P) (hK : Within k 64 K) (rs : List Rl) (hn : rs.length ≤ 1000) (ao : Option Addr) (cap : Nat) (w : World) (hR : RuleRow w ao rs) (hcap : rs.length ≤ cap) (hT : TabIn w) :
    Calls Tryd.prog 7 #[.int .i64 p, .int .i64 k, .slice ao rs.length cap] w (EvalPost P K rs w) := by
  have hPl := hP.le
  have hKl := hK.le
  have W1 : Hid (Calls Tryd.prog 19 #[.int .i64 p] w fun e w' => e = .returned (.int .i64 P) ∧ w = w') := swithin_any p P hP w
  have W2 : Hid (Calls Tryd.prog 19 #[.int .i64 k] w fun e w' => e = .returned (.int .i64 K) ∧ w = w') := swithin_any k K hK w
  obtain ⟨N, hN⟩ : ∃ N, P * K = N := ⟨_, rfl⟩
  have hNle : N ≤ 64 * 64 := by rw [← hN]; exact Nat.mul_le_mul hPl hKl
  have hmul : IntKind.i64.wrap ((P : Int) * (K : Int)) = (N : Int) := by
    have : (P : Int) * (K : Int) = (N : Int) := by rw [← hN]; simp
    rw [this]; exact IntWalk.i64_in _ (by omega)
  have hwN : Within (N : Int) 5000 N := by unfold Within; omega
  have hwP : Within (P : Int) 1000 P := by unfold Within; omega
  have W3 := Lib.hid (fnew_spec N P N P hwN hwP w)
  have hmk1 := fun W => run_make_row' (P := Tryd.prog) 51 23 (.slice none 0 0) 24 Tryd.underlying51 ruleRowInfo rfl .i64 .i64 N (by omega) (by omega) W
  have hmk2 := fun W => run_make_row' (P := Tryd.prog) 51 23 (.slice none 0 0) 24 Tryd.underlying51 ruleRowInfo rfl .i64 .i64 K (by omega) (by omega) W
  have HR := Lib.hid hR
  have HT := Lib.hid hT
  have HN := Lib.hid hN
  clear hP hK hwN hwP hR hT hN
  go_enter Tryd.func7, Tryd.ntmps7
  go_wp2_with fail
  refine W1.out.mono ?_
  rintro e w' ⟨rfl, rfl⟩
  go_wp2_with fail
  refine W2.out.mono ?_
  rintro e w' ⟨rfl, rfl⟩
  clear W1 W2
  go_wp2_with fail
  refine W3.out.mono ?_
  rintro e w1 ⟨rfl, hfam, hbel⟩
  have HF := Lib.hid hfam
  have HB := Lib.hid hbel
  clear hfam hbel W3
  go_upto_region 3 with fail
  go_cut [] (fun wx => ∃ M : Mk, M.mb = w1.heap.size + 1 ∧ M.P = P ∧ M.K = K ∧ Hid (EvAt w.heap.size w M (fun _ => .slice none 0 0) (fun _ => []) St.zero (.slice none 0 0) wx))
  case first =>
    go_region
    all_goals (go_wp2_with fail; go_meet)
    · exact ⟨⟨w1.heap.size + 1, w1.heap.size, w.heap.size, w.heap.size + 1, fun i => w.heap.size + 2 + i, w1.heap.size + 1 + 1, w1.heap.size + 1 + 1 + 1, P, K⟩, rfl, rfl, rfl, ev_one hPl hKl HN.out HF.out HB.out⟩
    · exact ⟨⟨w1.heap.size + 1, w1.heap.size, w.heap.size, w.heap.size + 1, fun i => w.heap.size + 2 + i, w1.heap.size + 1 + 1 + 1, w1.heap.size + 1 + 1, P, K⟩, rfl, rfl, rfl, ev_two hPl hKl HN.out HF.out HB.out⟩
  case rest =>
    obtain ⟨M, hmb, rfl, rfl, H0⟩ := hcut
    rw [← hmb]
    clear hmb HF HB hmk1 hmk2 hmul
    have hrs : ∀ r, r ∈ rs.filter (fun r => rightB M.P M.K r) → rightB M.P M.K r = true := fun r hr => (List.mem_filter.1 hr).2
    have hlr : (rs.filter (fun r => rightB M.P M.K r)).length ≤ 1000000 := Nat.le_trans (List.length_filter_le _ _) (by omega)
    have RUN := Lib.hid (Run.start (N := M.N) (P := M.P) (K := M.K) rfl hrs)
    have FEW := Lib.hid (RUN.out.few rfl hPl hKl hlr)
    have HRS := Lib.hid hrs
    clear hrs
    go_wp2_with fail
    go_loopg [40] rs.length (fun g t wr => ∃ j : Nat, j ≤ rs.length ∧ g = rs.length - j ∧ t = .int .i64 j ∧ ∃ vr vq, Hid (EvAt w.heap.size w M vr (keptL M.N (rightTo M.P M.K rs j)) (St.putL M.N M.P (rightTo M.P M.K rs j) St.zero) vq wr))
    case atStart => exact ⟨0, Nat.zero_le _, rfl, rfl, _, _, H0.out⟩
    case round =>
      clear H0
      obtain ⟨j, hj, rfl, rfl, vr, vq, hat⟩ := hrel
      by_cases hlt : j < rs.length
      · obtain ⟨r, hr⟩ : ∃ r, rs[j]? = some r := ⟨_, List.getElem?_eq_getElem hlt⟩
        have hrow := HR.out.keeps hat.out.base (fun _ _ _ h => h)
        obtain ⟨bb, off, rfl, hbl, hc⟩ := hrow (by omega)
        obtain ⟨c0, c1, c2, c3, c4, c5⟩ := hc j r hr
        have hjI : (j : Int) < (rs.length : Int) := by omega
        have hsc := rightTo_succ (P := M.P) (K := M.K) hr
        have hext := rightTo_ext (N := M.N) M.P M.K rs (j + 1) St.zero
        have hlen := rightTo_len M.P M.K rs j
        obtain ⟨kind, head, who, a, b, via⟩ := r
        simp only [] at c0 c1 c2 c3 c4 c5
        obtain ⟨rb, hrb⟩ : ∃ rb, rightB M.P M.K ⟨kind, head, who, a, b, via⟩ = rb := ⟨_, rfl⟩
        have hbx : EvAt w.heap.size w M vr (keptL M.N (rightTo M.P M.K rs j)) (St.putL M.N M.P (rightTo M.P M.K rs j) St.zero) vq (wr.alloc (.cells #[.int .i64 kind, .int .i64 head, .int .i64 who, .int .i64 a, .int .i64 b, .int .i64 via] 25)) := hat.out.quiet (Nat.le_refl _) ((Keeps.refl _ _).alloc _)
        have HBX := Lib.hid hbx
        have HA : Hid (Calls Tryd.prog 21 #[.int .i64 M.P, .int .i64 M.K, .agg #[.int .i64 kind, .int .i64 head, .int .i64 who, .int .i64 a, .int .i64 b, .int .i64 via]] (wr.alloc (.cells #[.int .i64 kind, .int .i64 head, .int .i64 who, .int .i64 a, .int .i64 b, .int .i64 via] 25)) (RightPost rb (wr.alloc (.cells #[.int .i64 kind, .int .i64 head, .int .i64 who, .int .i64 a, .int .i64 b, .int .i64 via] 25)))) := by
          rw [← hrb]
          exact right_spec _ _ _ ⟨kind, head, who, a, b, via⟩
        rw [hrb] at hsc
        clear hbx hat hrow hc
        go_wp2_with fail
        refine HA.out.mono ?_
        rintro e W2 ⟨rfl, hb2⟩
        have hk2 := Keeps.of_below (S := fun _ => False) hb2 (Nat.le_refl _)
        have hat2 := HBX.out.quiet (Nat.le_refl _) hk2
        have q : ∀ i, W2.cell? ⟨wr.heap.size, i, none⟩ = (wr.alloc (.cells #[.int .i64 kind, .int .i64 head, .int .i64 who, .int .i64 a, .int .i64 b, .int .i64 via] 25)).cell? ⟨wr.heap.size, i, none⟩ := fun i => hb2.cell (p := ⟨wr.heap.size, i, none⟩) (by simp)
        have q0 := (q 0).trans (by simp : _ = some (.int .i64 kind))
        have q1 := (q 1).trans (by simp : _ = some (.int .i64 head))
        have q2 := (q 2).trans (by simp : _ = some (.int .i64 who))
        have q3 := (q 3).trans (by simp : _ = some (.int .i64 a))
        have q4 := (q 4).trans (by simp : _ = some (.int .i64 b))
        have q5 := (q 5).trans (by simp : _ = some (.int .i64 via))
        clear q hk2 hb2 HA HBX c0 c1 c2 c3 c4 c5
        have HAT2 := Lib.hid hat2
        clear hat2
        cases rb with
        | false =>
          rw [if_neg (by simp)] at hsc
          have HN2 : Hid (EvAt w.heap.size w M vr (keptL M.N (rightTo M.P M.K rs (j + 1))) (St.putL M.N M.P (rightTo M.P M.K rs (j + 1)) St.zero) vq W2) := by rw [hsc]; exact HAT2.out
          clear HAT2 hsc hext
          go_wp2_with fail
          go_roundg (rs.length - (j + 1))
          case measure => omega
          case rel => exact ⟨j + 1, by omega, rfl, by go_num, _, _, HN2⟩
        | true =>
          rw [if_pos rfl] at hsc
          rw [hsc, St.putL_snoc] at hext
          have hfew := Few.down hext FEW.out
          have HPUT : Hid (Calls Tryd.prog 22 #[.pointer (some ⟨M.mb, 0, none⟩), .agg #[.int .i64 kind, .int .i64 head, .int .i64 who, .int .i64 a, .int .i64 b, .int .i64 via]] W2 (PutPost M vr (putRow M.N ⟨kind, head, who, a, b, via⟩ (keptL M.N (rightTo M.P M.K rs j))) vq ((St.putL M.N M.P (rightTo M.P M.K rs j) St.zero).put M.N M.P ⟨kind, head, who, a, b, via⟩) W2)) :=
            sput_spec HAT2.out.at_ (fun i => by have := keptL_len M.N (rightTo M.P M.K rs j) i; omega) ⟨kind, head, who, a, b, via⟩ hrb hfew
          clear hext hfew
          go_wp2_with fail
          refine HPUT.out.mono ?_
          rintro e W3 ⟨rfl, vr3, vq3, hat3, hst3⟩
          have HN2 : Hid (EvAt w.heap.size w M vr3 (keptL M.N (rightTo M.P M.K rs (j + 1))) (St.putL M.N M.P (rightTo M.P M.K rs (j + 1)) St.zero) vq3 W3) := by
            rw [hsc, keptL_snoc, St.putL_snoc]
            exact HAT2.out.move (Nat.le_refl _) hat3 hst3
          clear HAT2 hsc hat3 hst3 HPUT q0 q1 q2 q3 q4 q5
          go_wp2_with fail
          go_roundg (rs.length - (j + 1))
          case measure => omega
          case rel => exact ⟨j + 1, by omega, rfl, by go_num, _, _, HN2⟩
      · obtain rfl : j = rs.length := by omega
        rw [rightTo_all] at hat
        go_wp2_with fail
        go_loopg [52] (M.P * M.N) (fun g t wr => t = t ∧ ∃ (p : Nat) (s : St), p ≤ M.P * M.N ∧ g = M.P * M.N - p ∧ ∃ vr vq, Hid (EvAt w.heap.size w M vr (keptL M.N (rs.filter (fun r => rightB M.P M.K r))) s vq wr) ∧ Hid (Run M.N M.P M.K (rs.filter (fun r => rightB M.P M.K r)) p s) ∧ (rs.filter (fun r => rightB M.P M.K r)).length ≤ s.steps)
        case atStart => exact ⟨rfl, 0, _, Nat.zero_le _, rfl, _, _, hat, RUN, by have := St.putL_steps (N := M.N) (P := M.P) (rs.filter (fun r => rightB M.P M.K r)) St.zero; omega⟩
        case round =>
          clear hat
          obtain ⟨_, p, s, hp, rfl, vr, vq, hat, hrun, hleast⟩ := hrel
          obtain ⟨In, tot, steps, q⟩ := s
          cases q with
          | nil =>
            obtain ⟨m0, m1, m2, m3⟩ := hat.out.at_.mcells
            obtain ⟨ao2, cap2, rfl, _, _, _⟩ := hat.out.at_.que.form
            have hpost : EvalPost M.P M.K rs w (.returned (.pointer (some ⟨M.mo, 0, none⟩))) wr := ⟨M.mo, rfl, hat.out.model rfl rfl hrun.out rfl hleast⟩
            have HP := Lib.hid hpost
            clear hat hrun hpost RUN FEW HRS HR HT
            go_wp2_with fail
            go_ret
            exact HP.out
          | cons f q =>
            obtain ⟨f1, f2⟩ := f
            obtain ⟨m0, m1, m2, m3⟩ := hat.out.at_.mcells
            have fz := hat.out.at_.free.1 3
            obtain ⟨g, k, cap2, rfl, hle2, hmx2, d0, d1⟩ := hat.out.at_.first
            simp only [] at d0 d1
            obtain ⟨hnext, hext, hf1, hf2, hK0, hpl⟩ := Run.next (N := M.N) rfl HRS.out hrun.out
            simp only [] at hf1 hf2
            have hpos : (0 : Int) < ((q.length + 1 : Nat) : Int) := by omega
            have lm : M.mb < wr.heap.size := lt_of_cell m3
            have HPOP : Hid (∀ kk, (if cap2 = 1 then k else k + 2) = kk → EvAt w.heap.size w M vr (keptL M.N (rs.filter (fun r => rightB M.P M.K r))) ⟨In, tot, steps, q⟩ (.slice (some ⟨g, kk, none⟩) q.length (cap2 - 1)) ((wr.setCell ⟨M.mb, 3, none⟩ (.slice (some ⟨g, kk, none⟩) q.length (cap2 - 1))).alloc (.cells #[.int .i64 f1, .int .i64 f2] 57))) := fun kk hkk => by
              have := (EvAt.pop (Nat.le_refl _) hat.out).quiet (Nat.le_refl _) ((Keeps.refl _ _).alloc (.cells #[.int .i64 f1, .int .i64 f2] 57))
              rw [hkk] at this
              exact this
            have hfew : Few (St.look M.N M.P M.K (keptL M.N (rs.filter (fun r => rightB M.P M.K r))) ⟨In, tot, steps, q⟩ (f1, f2)) := hnext.few rfl hPl hKl hlr
            have HLOOK : Hid (∀ vq' W, EvAt w.heap.size w M vr (keptL M.N (rs.filter (fun r => rightB M.P M.K r))) ⟨In, tot, steps, q⟩ vq' W → Calls Tryd.prog 23 #[.pointer (some ⟨M.mb, 0, none⟩), .agg #[.int .i64 f1, .int .i64 f2]] W fun e W' => e = .returned (.tuple #[]) ∧
                ∃ vq3, Hid (EvAt w.heap.size w M vr (keptL M.N (rs.filter (fun r => rightB M.P M.K r))) (St.look M.N M.P M.K (keptL M.N (rs.filter (fun r => rightB M.P M.K r))) ⟨In, tot, steps, q⟩ (f1, f2)) vq3 W')) := fun vq' W h => by
              refine (slook_spec h.at_ (h.tab HT.out HT.out.lt) (h.ntab HT.out.lt) f1 f2 hf1 hf2 hK0 (fun r hr => ?_) (fun r hr => ?_) hfew).mono ?_
              · have := List.mem_filter.1 hr
                exact ⟨HRS.out r this.1, this.2⟩
              · have := List.mem_filter.1 hr
                exact ⟨HRS.out r this.1, this.2⟩
              · rintro e W' ⟨rfl, vq3, ha, hs⟩
                exact ⟨rfl, vq3, h.move (Nat.le_refl _) ha hs⟩
            have HNEXT := Lib.hid hnext
            have hle3 := Nat.le_trans hleast hext.steps
            have hp1 : p + 1 ≤ M.P * M.N := hpl
            clear hat hnext hext hfew hpl hleast hrun RUN FEW HRS HR HT
            by_cases hc1 : cap2 = 1
            · have hp2 := HPOP.out k (if_pos hc1)
              rw [show cap2 - 1 = 0 from by omega] at hp2
              have HP2 := Lib.hid hp2
              clear hp2 HPOP
              go_wp2_with fail
              refine (HLOOK.out _ _ HP2.out).mono ?_
              rintro e W3 ⟨rfl, vq3, h3⟩
              clear HLOOK HP2
              go_wp2_with fail
              go_roundg (M.P * M.N - (p + 1))
              case measure => omega
              case rel => exact ⟨trivial, p + 1, _, hp1, rfl, _, _, h3, HNEXT, hle3⟩
            · have hk1 : (if cap2 = 1 then k else k + 2) = k + 2 := if_neg hc1
              go_wp2_with fail
              refine (HLOOK.out _ _ (HPOP.out _ hk1)).mono ?_
              rintro e W3 ⟨rfl, vq3, h3⟩
              clear HLOOK HPOP
              go_wp2_with fail
              go_roundg (M.P * M.N - (p + 1))
              case measure => omega
              case rel => exact ⟨trivial, p + 1, _, hp1, rfl, _, _, h3, HNEXT, hle3⟩
end Go.Proofs.YtckjgefpelnkoaaDoor
