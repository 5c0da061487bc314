/- Registers: Scan, whole; 'begins' of the statements: walks. -/
import Derived.Test.YtmihblocomnfjaaDoorSnF
set_option linter.unusedSimpArgs false
set_option linter.unusedVariables false
namespace Go.Proofs.YtmihblocomnfjaaDoor
open Go Sy Close
set_option maxRecDepth 100000
open Sn (regR SD SP nxt did wd num vl)
theorem sget_ok : (⟨26, sgetP⟩ : Contract).Ok Tryd.prog := con_start fun args w0 => by
  unfold sgetP
  split
  · rename_i c r hargs
    obtain rfl := args_of hargs
    refine good_bools (good_ptr fun cb => good_sl fun ws n cap => good_words fun n' xs => good_needs fun hn => good_test ?_)
    simp only [Bool.and_eq_true, Nat.blt_eq, Nat.beq_eq] at hn
    obtain ⟨hn0, rfl⟩ := hn
    have rows : ∀ {l : List (Nat × Nat × Value)}, RowsOk w0 l [(⟨109, 1, .slice (some ⟨ws, 0, none⟩) cap cap, n', xs.map u64V⟩ : Vec)] → n' = cap ∧ xs.length = cap := fun hr => by
      obtain ⟨e1, e2, _⟩ := owns_at (hr.row _ (List.mem_singleton.2 rfl))
      rw [List.length_map] at e2
      exact ⟨e1, e2⟩
    cases hin : inR r cap with
    | true =>
      refine good_doneR fun hl hr => ?_
      obtain ⟨e1, e2⟩ := rows hr
      subst e1
      have hin' := hin
      simp only [inR, Bool.and_eq_true, decide_eq_true_eq] at hin'
      obtain ⟨hr0, hr1⟩ := hin'
      have hro : ∀ x ∈ snL c cb ws n', ¬ ∃ y ∈ [(⟨109, 1, .slice (some ⟨ws, 0, none⟩) n' n', n', xs.map u64V⟩ : Vec)], y.v.ownBlock = some x.1 := fun x hx ⟨y, hy, e⟩ => hr.off y hy _ e x hx rfl
      refine calls_after (X := fun _ _ _ => False) (fn := Tryd.f26) Tryd.func26 rfl (show 2 ≤ Tryd.f26.ntmps by decide) fun a hfr => ?_
      refine Res.segV (F := []) (GF := []) (V := [wordsV ws n' n' n' (xs.map u64V)]) (GV := []) hostB _ (sgeA c cb ws n' xs r) sgeA1_n (sgeA1_1 c cb ws n' xs r) (sgeA1_2 c cb ws n' xs r) (Res.rows hr) hl hro no_ros rfl ?_ (fun _ _ => rfl) (fun _ _ => rfl) hfr fun ν j a1 w1 hfr1 hr1 => ?_
      · simp only [sgeA1_o, all_u64]
        simp [hr0, hr1, Cq.okq]
      · obtain ⟨g, p1, p2, p3, p4⟩ : ∃ g, (sgeA1_o c cb ws n' xs r ν j).1 = .ret (.tuple #[regA (seeAt xs r), errV 0]) ∧ (sgeA1_o c cb ws n' xs r ν j).2.2.vecs = [wordsV ws n' n' n' (xs.map u64V), g] ∧ (sgeA1_o c cb ws n' xs r ν j).2.2.news = [] ∧ (sgeA1_o c cb ws n' xs r ν j).2.2.blocks = [] := by
          simp only [sgeA1_o, map_valU]
          exact ⟨_, rfl, rfl, trivial, trivial⟩
        rw [p2, p3, p4] at hr1
        rw [p1]
        exact ⟨[], rfl, rfl, Res.metR (z := ({ res := .tuple #[regA (seeAt xs r), errV 0] } : Sy.Ends)) (ls := []) (GV := [g]) (GF := []) (L := []) hr1 rfl (by simp)⟩
    | false =>
      refine good_doneR fun hl hr => ?_
      obtain ⟨e1, e2⟩ := rows hr
      subst e1
      have hin' := hin
      simp only [inR, Bool.and_eq_false_iff, decide_eq_false_iff_not] at hin'
      have hro : ∀ x ∈ snL c cb ws n', ¬ ∃ y ∈ [(⟨109, 1, .slice (some ⟨ws, 0, none⟩) n' n', n', xs.map u64V⟩ : Vec)], y.v.ownBlock = some x.1 := fun x hx ⟨y, hy, e⟩ => hr.off y hy _ e x hx rfl
      refine calls_after (X := fun _ _ _ => False) (fn := Tryd.f26) Tryd.func26 rfl (show 2 ≤ Tryd.f26.ntmps by decide) fun a hfr => ?_
      by_cases hr0 : 0 ≤ r
      · refine Res.segV (F := []) (GF := []) (V := [wordsV ws n' n' n' (xs.map u64V)]) (GV := []) hostB _ (sgeA c cb ws n' xs r) sgeA3_n (sgeA3_1 c cb ws n' xs r) (sgeA3_2 c cb ws n' xs r) (Res.rows hr) hl hro no_ros rfl (by simp [sgeA3_o] <;> omega) (fun _ _ => rfl) (fun _ _ => rfl) hfr fun ν j a1 w1 hfr1 hr1 => ?_
        exact ⟨[], rfl, rfl, Res.metR (z := ({ res := .tuple #[.agg #[.int .u32 0, .int .u32 0], errV 2] } : Sy.Ends)) (ls := []) (GV := []) (GF := []) (L := []) hr1 rfl (by simp)⟩
      · refine Res.segV (F := []) (GF := []) (V := [wordsV ws n' n' n' (xs.map u64V)]) (GV := []) hostB _ (sgeA c cb ws n' xs r) sgeA2_n (sgeA2_1 c cb ws n' xs r) (sgeA2_2 c cb ws n' xs r) (Res.rows hr) hl hro no_ros rfl (by simp [sgeA2_o] <;> omega) (fun _ _ => rfl) (fun _ _ => rfl) hfr fun ν j a1 w1 hfr1 hr1 => ?_
        exact ⟨[], rfl, rfl, Res.metR (z := ({ res := .tuple #[.agg #[.int .u32 0, .int .u32 0], errV 2] } : Sy.Ends)) (ls := []) (GV := []) (GF := []) (L := []) hr1 rfl (by simp)⟩
  · exact good_fail
def consG : List Contract := ⟨24, sputP⟩ :: ⟨26, sgetP⟩ :: ⟨10, snewP⟩ :: consA
theorem consG_ok : ∀ c ∈ consG, c.Ok Tryd.prog := con_ok sput_ok (con_ok sget_ok (con_ok snew_ok consA_ok))
noncomputable def hostG : Host Tryd.prog := hostOf _ consG_ok
noncomputable def bgA : Seg := { items := [.code (codeOf Tryd.f11)], known := [], mem := { loose := usesC }, live := [3, 4, 5, 6], cuts := [25] }
def bgA1_n : Notes := { tr := [1, 0, 0, 0, 0, 13, 12, 11, 10, 9, 8, 7, 6, 5, 4, 3, 2, 1, 0, 1, 1, 1, 0, 1, 15, 14, 13, 12, 11, 10, 9, 8, 7, 6, 5, 4, 3, 2, 1, 1, 1, 0, 1], tb := [], todo := [([0, 1, 1, 3], 0), ([0, 1, 1, 4], 0)], keep := [[0, 0, 5, 3], [0, 0, 5, 4], [0, 1, 0, 1], [1, 1, 0, 1]], big := [97, 40, 41], unroll := [], gcs := [] }
noncomputable def bgA1_o  (ν : Key → Nat) (j : Nat → Value) : Fin × List (Nat × Value) × Sy.Left := (.call 25 (#[.pointer (some { block := ν [0, 1, 0, 0 + 1], off := 0 }), .int .i64 2]) (some 31) (regAt Tryd.f11 6).1 ((regAt Tryd.f11 6).1.toList.drop 2) (regAt Tryd.f11 6).2, [(3, .pointer (some { block := ν [0, 0, 0 + 1 + 1 + 1 + 1 + 1, 0 + 1 + 1 + 1], off := 0 })), (4, .int .i64 0), (5, .pointer (some { block := ν [0, 0, 0 + 1 + 1 + 1 + 1 + 1, 0 + 1 + 1 + 1 + 1], off := 0 })), (6, .int .i64 0)], ⟨[], [(0, 11, .bool true), (0, 10, .bool true), (0, 9, .bool true), (0, 8, .bool false), (0, 7, .bool true), (0, 6, .bool false), (0, 5, .bool true), (0, 4, .bool false), (0, 3, .bool false), (0, 2, .bool false), (0, 1, .bool false), (0, 0, .bool false)], [{ e := 109, size := 1, v := .slice (some { block := ν [0 + 1 + 1, 1, 0, 0 + 1], off := 0 }) 2 2, n := 2, xs := [.int .u64 8589934599, .int .u64 0] }], [(ν [0, 0, 0 + 1 + 1 + 1 + 1 + 1, 0 + 1 + 1 + 1 + 1], 63, [.int .u32 2, .int .u32 7]), (ν [0, 0, 0 + 1 + 1 + 1 + 1 + 1, 0 + 1 + 1 + 1], 63, [.int .u32 1, .int .u32 5]), (ν [0 + 1, 1, 0, 0 + 1], 99, [.slice (some { block := ν [0 + 1 + 1, 1, 0, 0 + 1], off := 0 }) 2 2]), (ν [0, 1, 0, 0 + 1], 78, [.pointer (some { block := ν [0 + 1, 1, 0, 0 + 1], off := 0 })])], []⟩)
theorem bgA1_1  (ν : Key → Nat) (j : Nat → Value) : ((bgA ).run hostG Tryd.f11 bgA1_n ν j).map Prod.fst = some (bgA1_o  ν j) := by kernel_rfl
theorem bgA1_2  (ν : Key → Nat) (j : Nat → Value) : ((bgA ).run hostG Tryd.f11 bgA1_n ν j).map lefts = ((bgA ).run hostG Tryd.f11 bgA1_n ν j).map rights := by kernel_rfl
noncomputable def bgB (a b g cap : Nat) : Seg := { items := opsFrom Tryd.f11 6 2, known := [(31, .tuple #[.slice (some ⟨g, 0, none⟩) 2 cap, .int .i64 0]), (3, ptrV a), (4, .int .i64 0), (5, ptrV b), (6, .int .i64 0)], mem := { blocks := [(a, 63, [.int .u32 1, .int .u32 5]), (b, 63, [.int .u32 2, .int .u32 7])], vecs := [regsV (some ⟨g, 0, none⟩) 2 cap [.int .u32 2, .int .u32 7, .int .u32 0, .int .u32 0]] } }
def bgB1_n : Notes := { tr := [1, 0, 1, 1, 1, 1, 1, 1, 1, 1, 2, 3, 1, 1, 1, 1, 1, 1, 1, 1, 1, 1, 1, 1, 1, 1, 2, 3, 1, 2000010, 1, 2000010, 1, 1, 1, 1, 1, 1, 1, 1, 2000010, 1, 2000010, 1, 1, 1], tb := [([4, 1], [false, false, false, false], .take 0 (.take 1 (.take 2 (.take 3 (.take 4 (.take 5 (.take 6 (.take 7 (.take 8 (.take 9 (.take 10 (.take 11 (.take 12 (.take 13 (.take 14 (.take 15 (.take 16 (.take 17 (.take 18 (.take 19 (.take 20 (.take 21 (.take 22 (.take 23 (.take 24 (.take 25 (.take 26 (.take 27 (.take 29 (.alt 28 (.take 30 (.take 31 (.take 32 (.take 33 (.take 34 (.take 36 (.alt 35 (.take 37 (.take 38 (.take 39 (.done)))) (.stop)))))))) (.stop)))))))))))))))))))))))))))))))], todo := [], keep := [], big := [97, 40, 41], unroll := [], gcs := [] }
noncomputable def bgB1_o (a : Nat) (b : Nat) (g : Nat) (cap : Nat) (ν : Key → Nat) (j : Nat → Value) : Fin × List (Nat × Value) × Sy.Left := (.ret (.bool true), [], ⟨[(a, 63, [.int .u32 1, .int .u32 5]), (b, 63, [.int .u32 2, .int .u32 7])], [], [{ e := 63, size := 2, v := .slice (some { block := g, off := 0 }) 2 cap, n := 2, xs := [.int .u32 2, .int .u32 7, .int .u32 0, .int .u32 0] }], [], []⟩)
theorem bgB1_1 (a : Nat) (b : Nat) (g : Nat) (cap : Nat) (ν : Key → Nat) (j : Nat → Value) : ((bgB a b g cap).run hostG Tryd.f11 bgB1_n ν j).map Prod.fst = some (bgB1_o a b g cap ν j) := by kernel_rfl
theorem bgB1_2 (a : Nat) (b : Nat) (g : Nat) (cap : Nat) (ν : Key → Nat) (j : Nat → Value) : ((bgB a b g cap).run hostG Tryd.f11 bgB1_n ν j).map lefts = ((bgB a b g cap).run hostG Tryd.f11 bgB1_n ν j).map rights := by kernel_rfl
end Go.Proofs.YtmihblocomnfjaaDoor
