/- Registers: Scan, whole; 'begins' of the statements as a contract. -/
import Derived.Test.YtmihblocomnfjaaDoorSnGB
set_option linter.unusedSimpArgs false
set_option linter.unusedVariables false
namespace Go.Proofs.YtmihblocomnfjaaDoor.snst
open Go Sy Close
set_option maxRecDepth 100000
open Sn (regR SD SP nxt did wd num vl)
theorem doneBad {W w0 : World} {O : Nat → Prop} {c cb ws n : Nat} {tr : Int} {F : Bks} {V : List Vec} (ht : ¬ (1 ≤ tr ∧ tr ≤ 1024)) (h : Res W O (snB c cb ws n ++ F) [] V w0) :
    Calls Tryd.prog 42 #[ptrV c, .agg #[.int .u8 3, .int .i64 0, .int .u32 0, .int .i64 tr]] w0 fun e w' => e = .returned (.tuple #[.agg #[.slice none 0 0, .bool false, .int .i64 0], .int .i64 2]) ∧ Res W O (snB c cb ws n ++ F) [] V w' := by
  refine calls_after (X := fun _ _ _ => False) Tryd.func42 doneBody doneTmps fun a1 ha => ?_
  have go : ∀ {q : Nat} {a : Act} {w2 : World}, Fr Tryd.f42.ntmps (dnK q none 2) a → Res W O (viewB q ++ (snB c cb ws n ++ F)) [] V w2 →
      Owed Tryd.prog Tryd.f42 (fun _ _ _ => False) (fun e w' => e = .returned (.tuple #[.agg #[.slice none 0 0, .bool false, .int .i64 0], .int .i64 2]) ∧ Res W O (snB c cb ws n ++ F) [] V w') (.loop (cutAt Tryd.f42 2).1 (cutAt Tryd.f42 2).2) a w2 := fun {q a w2} hfr hr => by
    refine loop_after (i := 2) (by kernel_rfl) (fun d a w1 => d = 0 ∧ Fr Tryd.f42.ntmps (dnK q none 2) a ∧ Res W O (viewB q ++ (snB c cb ws n ++ F)) [] V w1) 0 ⟨rfl, hfr, hr⟩ ?_
    rintro d a3 w3 ⟨rfl, hfr3, hr3⟩ Y hY _
    refine Res.segV (F := viewB q) (V := []) hostA _ (dnY q) dnY1_n (dnY1_1 q) (dnY1_2 q) (hr3) (Looks.nil _) (fun _ h => by cases h) no_ros rfl ?_ (fun _ _ => rfl) (fun _ _ => rfl) hfr3 fun ν j a4 w4 hfr4 hr4 => ?_
    · simp [dnY1_o]
    · exact ⟨rfl, hr4.less (List.sublist_append_right (viewB q) _) (.refl _) (.refl _)⟩
  by_cases h1 : 1 ≤ tr
  · have h2 : ¬ tr ≤ 1024 := fun h2 => ht ⟨h1, h2⟩
    refine Res.segV (F := snB c cb ws n) (V := []) hostA _ (dnA c cb ws n tr) dnA3_n (dnA3_1 c cb ws n tr) (dnA3_2 c cb ws n tr) (h) (Looks.nil _) (fun _ h => by cases h) no_ros rfl ?_ (fun _ _ => rfl) (fun _ _ => rfl) ha fun ν j a2 w2 hfr2 hr2 => ?_
    · simp [dnA3_o, h1, h2]; try omega
    · exact go hfr2 hr2
  · refine Res.segV (F := snB c cb ws n) (V := []) hostA _ (dnA c cb ws n tr) dnA2_n (dnA2_1 c cb ws n tr) (dnA2_2 c cb ws n tr) (h) (Looks.nil _) (fun _ h => by cases h) no_ros rfl ?_ (fun _ _ => rfl) (fun _ _ => rfl) ha fun ν j a2 w2 hfr2 hr2 => ?_
    · simp [dnA2_o, h1]; try omega
    · exact go hfr2 hr2
theorem scanBody : Tryd.f25.body = some (codeOf Tryd.f25) := by kernel_rfl
theorem scanTmps : 2 ≤ Tryd.f25.ntmps := by decide +kernel
theorem scanOk {W w0 : World} {O : Nat → Prop} {c cb ws n : Nat} {xs : List Int} {tr : Int} {F : Bks} {V : List Vec} (hx : xs.length = n) (hn0 : 0 < n) (hn1 : n ≤ 64) (hlu : Sy.Looks W usesC) (hro : ∀ x ∈ usesC, ¬ O x.1) (hO : ∀ b, O b → b = ws) (ht1 : 2 ≤ tr) (ht2 : tr ≤ 1024)
    (h : Res W O (snB c cb ws n ++ F) [] ([wordsV ws n n n (xs.map u64V)] ++ V) w0) :
    Calls Tryd.prog 25 #[ptrV c, .int .i64 tr] w0 fun e w' => ∃ g cap, e = .returned (.tuple #[.slice (some ⟨g, 0, none⟩) n cap, .int .i64 0]) ∧
      Res W O (snB c cb ws n ++ F) [] ([wordsV ws n n n (xs.map u64V)] ++ (regsV (some ⟨g, 0, none⟩) n cap (xs.flatMap regR) :: V)) w' := by
  refine calls_after (X := fun _ _ _ => False) Tryd.func25 scanBody scanTmps fun a1 ha => ?_
  refine Res.segV (F := []) (V := []) hostA _ (scA c tr) scA1_n (scA1_1 c tr) (scA1_2 c tr) (h) (Looks.nil _) (fun _ h => by cases h) no_ros rfl ?_ (fun _ _ => rfl) (fun _ _ => rfl) ha fun ν j a2 w2 hfr2 hr2 => ?_
  · simp [scA1_o]
  refine (doneScan hx hn0 hn1 hlu hro hO (by omega) ht2 hr2).mono ?_
  rintro e w3 ⟨g, cap, rfl, hr3⟩
  refine ⟨_, rfl, ?_⟩
  rw [decide_eq_true (show tr ≥ 2 from ht1), if_pos (show tr ≥ 2 from ht1)]
  have hfr3 := hfr2.put (d := 12) (v := .tuple #[.agg #[.slice (some ⟨g, 0, none⟩) n cap, .bool true, .int .i64 2], .int .i64 0]) (by decide +kernel) [] (by simp) (by simp)
  refine Res.segV (F := []) (V := []) hostA _ (scB (some ⟨g, 0, none⟩) n cap true 2 0) scB3_n (scB3_1 (some ⟨g, 0, none⟩) n cap true 2 0) (scB3_2 (some ⟨g, 0, none⟩) n cap true 2 0) (hr3) (Looks.nil _) (fun _ h => by cases h) no_ros rfl ?_ (fun _ _ => rfl) (fun _ _ => rfl) hfr3 fun ν j a4 w4 hfr4 hr4 => ?_
  · simp [scB3_o]
  · exact ⟨g, cap, rfl, hr4⟩
theorem scanOne {W w0 : World} {O : Nat → Prop} {c cb ws n : Nat} {xs : List Int} {F : Bks} {V : List Vec} (hx : xs.length = n) (hn0 : 0 < n) (hn1 : n ≤ 64) (hlu : Sy.Looks W usesC) (hro : ∀ x ∈ usesC, ¬ O x.1) (hO : ∀ b, O b → b = ws)
    (h : Res W O (snB c cb ws n ++ F) [] ([wordsV ws n n n (xs.map u64V)] ++ V) w0) :
    Calls Tryd.prog 25 #[ptrV c, .int .i64 1] w0 fun e w' => e = .returned (.tuple #[.slice none 0 0, .int .i64 140]) ∧ Res W O (snB c cb ws n ++ F) [] ([wordsV ws n n n (xs.map u64V)] ++ V) w' := by
  refine calls_after (X := fun _ _ _ => False) Tryd.func25 scanBody scanTmps fun a1 ha => ?_
  refine Res.segV (F := []) (V := []) hostA _ (scA c 1) scA1_n (scA1_1 c 1) (scA1_2 c 1) (h) (Looks.nil _) (fun _ h => by cases h) no_ros rfl ?_ (fun _ _ => rfl) (fun _ _ => rfl) ha fun ν j a2 w2 hfr2 hr2 => ?_
  · simp [scA1_o]
  refine (doneScan hx hn0 hn1 hlu hro hO (by omega) (by omega) hr2).mono ?_
  rintro e w3 ⟨g, cap, rfl, hr3⟩
  refine ⟨_, rfl, ?_⟩
  have hfr3 := hfr2.put (d := 12) (v := .tuple #[.agg #[.slice (some ⟨g, 0, none⟩) n cap, .bool false, .int .i64 1], .int .i64 0]) (by decide +kernel) [] (by simp) (by simp)
  refine Res.segV (F := []) (V := []) hostA _ (scB (some ⟨g, 0, none⟩) n cap false 1 0) scB2_n (scB2_1 (some ⟨g, 0, none⟩) n cap false 1 0) (scB2_2 (some ⟨g, 0, none⟩) n cap false 1 0) (hr3) (Looks.nil _) (fun _ h => by cases h) no_ros rfl ?_ (fun _ _ => rfl) (fun _ _ => rfl) hfr3 fun ν j a4 w4 hfr4 hr4 => ?_
  · simp [scB2_o]
  · exact ⟨rfl, Sy.Res.less (show Res W O (snB c cb ws n ++ F) [] (wordsV ws n n n (xs.map u64V) :: regsV (some ⟨g, 0, none⟩) n cap (xs.flatMap regR) :: V) w4 from hr4) (.refl _) (.refl _) (.cons_cons _ (.cons _ (.refl _)))⟩
theorem scanBad {W w0 : World} {O : Nat → Prop} {c cb ws n : Nat} {tr : Int} {F : Bks} {V : List Vec} (ht : ¬ (1 ≤ tr ∧ tr ≤ 1024)) (h : Res W O (snB c cb ws n ++ F) [] V w0) :
    Calls Tryd.prog 25 #[ptrV c, .int .i64 tr] w0 fun e w' => e = .returned (.tuple #[.slice none 0 0, .int .i64 2]) ∧ Res W O (snB c cb ws n ++ F) [] V w' := by
  refine calls_after (X := fun _ _ _ => False) Tryd.func25 scanBody scanTmps fun a1 ha => ?_
  refine Res.segV (F := []) (V := []) hostA _ (scA c tr) scA1_n (scA1_1 c tr) (scA1_2 c tr) (h) (Looks.nil _) (fun _ h => by cases h) no_ros rfl ?_ (fun _ _ => rfl) (fun _ _ => rfl) ha fun ν j a2 w2 hfr2 hr2 => ?_
  · simp [scA1_o]
  refine (doneBad ht hr2).mono ?_
  rintro e w3 ⟨rfl, hr3⟩
  refine ⟨_, rfl, ?_⟩
  have hfr3 := hfr2.put (d := 12) (v := .tuple #[.agg #[.slice none 0 0, .bool false, .int .i64 0], .int .i64 2]) (by decide +kernel) [] (by simp) (by simp)
  refine Res.segV (F := []) (V := []) hostA _ (scB none 0 0 false 0 2) scB1_n (scB1_1 none 0 0 false 0 2) (scB1_2 none 0 0 false 0 2) (hr3) (Looks.nil _) (fun _ h => by cases h) no_ros rfl ?_ (fun _ _ => rfl) (fun _ _ => rfl) hfr3 fun ν j a4 w4 hfr4 hr4 => ?_
  · simp [scB1_o]
  · exact ⟨rfl, hr4⟩
end Go.Proofs.YtmihblocomnfjaaDoor.snst
namespace Go.Proofs.YtmihblocomnfjaaDoor
open Go Sy Close
open Sn (regR SD SP nxt did wd num vl)
def sbegP (args : Array Value) : CP := match args.toList with
  | [] => loadsB 0 usesL <| .done 0 fun _ => { res := .bool true }
  | _ => .fail
theorem sbeg_ok : (⟨11, sbegP⟩ : Contract).Ok Tryd.prog := con_start fun args w0 => by
  unfold sbegP
  split
  · rename_i hargs
    obtain rfl := args_of hargs
    refine good_bools (good_doneR fun hl hr => ?_)
    have hro : ∀ x ∈ usesC, ¬ ∃ y ∈ ([] : List Vec), y.v.ownBlock = some x.1 := fun _ _ ⟨_, h, _⟩ => by cases h
    refine calls_after (X := fun _ _ _ => False) (fn := Tryd.f11) Tryd.func11 rfl (show 0 ≤ Tryd.f11.ntmps by decide) fun a hfr => ?_
    refine Res.segV (F := []) (GF := []) (V := []) (GV := []) hostG _ bgA bgA1_n bgA1_1 bgA1_2 (Res.rows hr) hl hro no_ros rfl (by simp [bgA1_o]) (fun _ _ => rfl) (fun _ _ => rfl) hfr fun ν j a1 w1 hfr1 hr1 => ?_
    obtain ⟨a, b, c, cb, ws, e0, e1, e2, e3, e4⟩ : ∃ a b c cb ws, (bgA1_o ν j).1 = .call 25 #[ptrV c, .int .i64 2] (some 31) (regAt Tryd.f11 6).1 ((regAt Tryd.f11 6).1.toList.drop 2) (regAt Tryd.f11 6).2 ∧ (bgA1_o ν j).2.1 = [(3, ptrV a), (4, .int .i64 0), (5, ptrV b), (6, .int .i64 0)] ∧ (bgA1_o ν j).2.2.news = [(b, 63, [.int .u32 2, .int .u32 7]), (a, 63, [.int .u32 1, .int .u32 5]), (cb, 99, [.slice (some ⟨ws, 0, none⟩) 2 2]), (c, 78, [ptrV cb])] ∧ (bgA1_o ν j).2.2.vecs = [wordsV ws 2 2 2 (([8589934599, 0] : List Int).map u64V)] ∧ (bgA1_o ν j).2.2.blocks = [] := ⟨_, _, _, _, _, rfl, rfl, rfl, rfl, rfl⟩
    rw [e0]
    rw [e1] at hfr1
    rw [e2, e3, e4] at hr1
    have hr2 : Res w0 (fun k => ∃ x ∈ ([] : List Vec), x.v.ownBlock = some k) (snB c cb ws 2 ++ [(a, 63, [.int .u32 1, .int .u32 5]), (b, 63, [.int .u32 2, .int .u32 7])]) [] ([wordsV ws 2 2 2 (([8589934599, 0] : List Int).map u64V)] ++ []) w1 := hr1.perm ((List.reverse_perm [(c, 78, [ptrV cb]), (cb, 99, [.slice (some ⟨ws, 0, none⟩) 2 2]), (a, 63, [.int .u32 1, .int .u32 5]), (b, 63, [.int .u32 2, .int .u32 7])])) (.refl _)
    refine (snst.scanOk (n := 2) (tr := 2) rfl (by omega) (by omega) hl hro (fun b ⟨_, h, _⟩ => by cases h) (by omega) (by omega) hr2).mono ?_
    rintro e w3 ⟨g, cap, rfl, hr3⟩
    refine ⟨_, rfl, ?_⟩
    have hfr3 := hfr1.put (d := 31) (v := .tuple #[.slice (some ⟨g, 0, none⟩) 2 cap, .int .i64 0]) (by decide +kernel) [(3, ptrV a), (4, .int .i64 0), (5, ptrV b), (6, .int .i64 0)] (fun x hx => hx) (by simp)
    have hv : ([8589934599, 0] : List Int).flatMap regR = [.int .u32 2, .int .u32 7, .int .u32 0, .int .u32 0] := by kernel_rfl
    rw [hv] at hr3
    have hr4 : Res w0 (fun k => ∃ x ∈ ([] : List Vec), x.v.ownBlock = some k) ([(a, 63, [.int .u32 1, .int .u32 5]), (b, 63, [.int .u32 2, .int .u32 7])] ++ snB c cb ws 2) [] ([regsV (some ⟨g, 0, none⟩) 2 cap [.int .u32 2, .int .u32 7, .int .u32 0, .int .u32 0]] ++ [wordsV ws 2 2 2 (([8589934599, 0] : List Int).map u64V)]) w3 := hr3.perm List.perm_append_comm (.swap ..)
    refine Res.segV (F := [(a, 63, [.int .u32 1, .int .u32 5]), (b, 63, [.int .u32 2, .int .u32 7])]) (V := [regsV (some ⟨g, 0, none⟩) 2 cap [.int .u32 2, .int .u32 7, .int .u32 0, .int .u32 0]]) hostG _ (bgB a b g cap) bgB1_n (bgB1_1 a b g cap) (bgB1_2 a b g cap) hr4 (Looks.nil _) (fun _ h => by cases h) no_ros rfl (by simp [bgB1_o]) (fun _ _ => rfl) (fun _ _ => rfl) hfr3 fun ν' j' a5 w5 hfr5 hr5 => ?_
    exact ⟨[], rfl, rfl, Res.metR (z := ({ res := .bool true } : Sy.Ends)) (ls := []) (GF := _) (GV := _) (L := []) (show Res w0 _ ([] ++ _) [] ([] ++ ([] ++ _)) w5 from hr5) rfl (by simp)⟩
  · exact good_fail
/-- 'begins' alone: nil registers are walked into. -/
def consN : List Contract := [⟨11, sbegP⟩]
theorem consN_ok : ∀ c ∈ consN, c.Ok Tryd.prog := con_ok sbeg_ok con_nil
noncomputable def hostN : Host Tryd.prog := hostOf _ consN_ok
def consS : List Contract := ⟨11, sbegP⟩ :: consG
theorem consS_ok : ∀ c ∈ consS, c.Ok Tryd.prog := con_ok sbeg_ok consG_ok
noncomputable def hostS : Host Tryd.prog := hostOf _ consS_ok
end Go.Proofs.YtmihblocomnfjaaDoor
