/- Registers: Put, Get as contracts; Scan, whole. -/
import Derived.Test.YtmihblocomnfjaaDoorSnE
set_option linter.unusedSimpArgs false
set_option linter.unusedVariables false
namespace Go.Proofs.YtmihblocomnfjaaDoor
open Go Sy Close
set_option maxRecDepth 100000
open Sn (regR SD SP nxt did wd num vl)
def regA (x : Int) : Value := .agg #[.int .u32 (num x), .int .u32 (vl x)]
def loadSnap (c : Nat) (k : (ws n cap : Nat) → List Int → CP) : CP := loadsB 0 usesL <| loadPtr ⟨c, 0, none⟩ fun cb => loadSl ⟨cb, 0, none⟩ fun ws n cap => loadRow (.slice (some ⟨ws, 0, none⟩) n cap) fun _ xs => needs (Nat.blt 0 n && Nat.beq cap n) <| k ws n cap xs
def inR (r : Int) (n : Nat) : Bool := decide (0 ≤ r) && decide (r < n)
def sputP (args : Array Value) : CP := match args.toList with
  | [.pointer (some ⟨c, 0, none⟩), .int .i64 r, .int .u32 v] => loadSnap c fun _ n _ xs => .test (inR r n) fun g => match g with
    | true => .done 0 fun _ => { res := .tuple #[regA (wd (seeAt xs r) v), errV 0], sets := [(0, (putAt xs r (wd (seeAt xs r) v)).map u64V)] }
    | false => .done 0 fun _ => { res := .tuple #[.agg #[.int .u32 0, .int .u32 0], errV 2] }
  | _ => .fail
def sgetP (args : Array Value) : CP := match args.toList with
  | [.pointer (some ⟨c, 0, none⟩), .int .i64 r] => loadSnap c fun _ n _ xs => .test (inR r n) fun g => match g with
    | true => .done 0 fun _ => { res := .tuple #[regA (seeAt xs r), errV 0] }
    | false => .done 0 fun _ => { res := .tuple #[.agg #[.int .u32 0, .int .u32 0], errV 2] }
  | _ => .fail
theorem sput_ok : (⟨24, sputP⟩ : Contract).Ok Tryd.prog := con_start fun args w0 => by
  unfold sputP
  split
  · rename_i c r v hargs
    obtain rfl := args_of hargs
    refine good_bools (good_ptr fun cb => good_sl fun ws n cap => good_words fun n' xs => good_needs fun hn => good_test ?_)
    simp only [Bool.and_eq_true, Nat.blt_eq, Nat.beq_eq] at hn
    obtain ⟨hn0, rfl⟩ := hn
    have rows : ∀ {l : List (Nat × Nat × Value)}, RowsOk w0 l [(⟨109, 1, .slice (some ⟨ws, 0, none⟩) cap cap, n', xs.map u64V⟩ : Vec)] → n' = cap ∧ xs.length = cap := fun hr => by
      obtain ⟨e1, e2, _⟩ := owns_at (hr.row _ (List.mem_singleton.2 rfl))
      rw [List.length_map] at e2
      exact ⟨e1, e2⟩
    cases hin : inR r cap with
    | true =>
      refine good_doneR fun hl hr => ?_
      obtain ⟨e1, e2⟩ := rows hr
      subst e1
      have hin' := hin
      simp only [inR, Bool.and_eq_true, decide_eq_true_eq] at hin'
      obtain ⟨hr0, hr1⟩ := hin'
      have hro : ∀ x ∈ snL c cb ws n', ¬ ∃ y ∈ [(⟨109, 1, .slice (some ⟨ws, 0, none⟩) n' n', n', xs.map u64V⟩ : Vec)], y.v.ownBlock = some x.1 := fun x hx ⟨y, hy, e⟩ => hr.off y hy _ e x hx rfl
      refine calls_after (X := fun _ _ _ => False) (fn := Tryd.f24) Tryd.func24 rfl (show 3 ≤ Tryd.f24.ntmps by decide) fun a hfr => ?_
      refine Res.segV (F := []) (GF := []) (V := [wordsV ws n' n' n' (xs.map u64V)]) (GV := []) hostB _ (spuA c cb ws n' xs r v) spuA1_n (spuA1_1 c cb ws n' xs r v) (spuA1_2 c cb ws n' xs r v) (Res.rows hr) hl hro no_ros rfl ?_ (fun _ _ => rfl) (fun _ _ => rfl) hfr fun ν j a1 w1 hfr1 hr1 => ?_
      · simp only [spuA1_o, all_u64]
        simp [hr0, hr1, Cq.okq, Cq.ok]
      · obtain ⟨x, hxe⟩ : ∃ x, x = seeAt xs r := ⟨_, rfl⟩
        obtain ⟨g, p1, p2, p3, p4⟩ : ∃ g, (spuA1_o c cb ws n' xs r v ν j).1 = .ret (.tuple #[regA (wd x v), errV 0]) ∧ (spuA1_o c cb ws n' xs r v ν j).2.2.vecs = [wordsV ws n' n' n' ((putAt xs r (wd x v)).map u64V), g] ∧ (spuA1_o c cb ws n' xs r v ν j).2.2.news = [] ∧ (spuA1_o c cb ws n' xs r v ν j).2.2.blocks = [] := by
          simp only [spuA1_o, map_valU, ← hxe, Sn.wd_def, rowNow]
          rw [show Cq.put 5 x (wd x v) x = wd x v by simp [Cq.put]]
          exact ⟨_, rfl, rfl, trivial, trivial⟩
        rw [p2, p3, p4] at hr1
        rw [p1, hxe]
        rw [hxe] at hr1
        exact ⟨[], rfl, rfl, Res.metR (z := ({ res := .tuple #[regA (wd (seeAt xs r) v), errV 0], sets := [(0, (putAt xs r (wd (seeAt xs r) v)).map u64V)] } : Sy.Ends)) (ls := []) (GV := [g]) (GF := []) (L := []) hr1 rfl (by simp)⟩
    | false =>
      refine good_doneR fun hl hr => ?_
      obtain ⟨e1, e2⟩ := rows hr
      subst e1
      have hin' := hin
      simp only [inR, Bool.and_eq_false_iff, decide_eq_false_iff_not] at hin'
      have hro : ∀ x ∈ snL c cb ws n', ¬ ∃ y ∈ [(⟨109, 1, .slice (some ⟨ws, 0, none⟩) n' n', n', xs.map u64V⟩ : Vec)], y.v.ownBlock = some x.1 := fun x hx ⟨y, hy, e⟩ => hr.off y hy _ e x hx rfl
      refine calls_after (X := fun _ _ _ => False) (fn := Tryd.f24) Tryd.func24 rfl (show 3 ≤ Tryd.f24.ntmps by decide) fun a hfr => ?_
      by_cases hr0 : 0 ≤ r
      · refine Res.segV (F := []) (GF := []) (V := [wordsV ws n' n' n' (xs.map u64V)]) (GV := []) hostB _ (spuA c cb ws n' xs r v) spuA3_n (spuA3_1 c cb ws n' xs r v) (spuA3_2 c cb ws n' xs r v) (Res.rows hr) hl hro no_ros rfl (by simp [spuA3_o] <;> omega) (fun _ _ => rfl) (fun _ _ => rfl) hfr fun ν j a1 w1 hfr1 hr1 => ?_
        exact ⟨[], rfl, rfl, Res.metR (z := ({ res := .tuple #[.agg #[.int .u32 0, .int .u32 0], errV 2] } : Sy.Ends)) (ls := []) (GV := []) (GF := []) (L := []) hr1 rfl (by simp)⟩
      · refine Res.segV (F := []) (GF := []) (V := [wordsV ws n' n' n' (xs.map u64V)]) (GV := []) hostB _ (spuA c cb ws n' xs r v) spuA2_n (spuA2_1 c cb ws n' xs r v) (spuA2_2 c cb ws n' xs r v) (Res.rows hr) hl hro no_ros rfl (by simp [spuA2_o] <;> omega) (fun _ _ => rfl) (fun _ _ => rfl) hfr fun ν j a1 w1 hfr1 hr1 => ?_
        exact ⟨[], rfl, rfl, Res.metR (z := ({ res := .tuple #[.agg #[.int .u32 0, .int .u32 0], errV 2] } : Sy.Ends)) (ls := []) (GV := []) (GF := []) (L := []) hr1 rfl (by simp)⟩
  · exact good_fail
namespace Sn
def J (n : Nat) (tr : Int) : Nat := if tr ≥ 2 then 2 * n else n
/-- A scan that nobody disturbs, having loaded so many. -/
def Q (n : Nat) (xs : List Int) (tr : Int) (j : Nat) (d : SD) : Prop := d.k = 3 ∧ d.tr = tr ∧ d.over = false ∧ ((j < n ∧ d.coll = 0 ∧ d.was = [] ∧ d.now = xs.take j) ∨ (n ≤ j ∧ j < 2 * n ∧ tr ≥ 2 ∧ d.coll = 1 ∧ d.was = xs ∧ d.now = xs.take (j - n)))
def QE (xs : List Int) (tr : Int) (d : SD) : Prop := d.k = 3 ∧ d.tr = tr ∧ d.over = true ∧ d.ans = xs ∧ d.clean = decide (tr ≥ 2) ∧ d.coll = (if tr ≥ 2 then 2 else 1)
theorem q_step {n : Nat} {xs : List Int} {tr : Int} {j : Nat} {d : SD} (hx : xs.length = n) (hn : 0 < n) (htr : 1 ≤ tr) (h : Q n xs tr j d) : (nxt n xs d).1 = xs ∧ ((j + 1 < J n tr ∧ Q n xs tr (j + 1) (nxt n xs d).2.1) ∨ (j + 1 = J n tr ∧ QE xs tr (nxt n xs d).2.1)) := by
  obtain ⟨k, r, v, tr', ld, saw, was, now, over, ans, clean, coll⟩ := d
  obtain ⟨h1, h2, h3, h4⟩ := h
  simp only at h1 h2 h3 h4
  subst h1 h2 h3
  have see : ∀ m, m < n → xs.take m ++ [seeAt xs ((xs.take m).length : Int)] = xs.take (m + 1) := fun m hm => by
    rw [List.length_take, Nat.min_eq_left (by omega), List.take_add_one, List.getElem?_eq_getElem (by omega)]
    simp [seeAt, List.getD, List.getElem?_eq_getElem (show m < xs.length by omega)]
  have hne : ([] : List Int) ≠ xs := fun e => by rw [← e] at hx; simp at hx; omega
  rcases h4 with ⟨g1, g2, g3, g4⟩ | ⟨g1, g2, g3, g4, g5, g6⟩
  · subst g2 g3
    have e := see j g1
    rw [← g4] at e
    have hl : (now ++ [seeAt xs (now.length : Int)]).length = j + 1 := by rw [e, List.length_take]; omega
    have hN : nxt n xs ⟨3, r, v, tr', ld, saw, [], now, false, ans, clean, 0⟩ = if j + 1 < n then (xs, ⟨3, r, v, tr', ld, saw, [], xs.take (j + 1), false, ans, clean, 0⟩, did 1 now.length (seeAt xs now.length) (seeAt xs now.length) true) else (xs, ⟨3, r, v, tr', ld, saw, xs.take (j + 1), [], decide (([] : List Int) = xs.take (j + 1)) || decide ((0 : Int) + 1 ≥ tr'), xs.take (j + 1), decide (([] : List Int) = xs.take (j + 1)), 0 + 1⟩, did 1 now.length (seeAt xs now.length) (seeAt xs now.length) true) := by
      simp only [nxt, e]
      rw [if_neg (by decide), if_neg (by decide), show (xs.take (j + 1)).length = j + 1 by rw [← e]; exact hl]
    rw [hN]
    by_cases hm : j + 1 < n
    · rw [if_pos hm]
      exact ⟨rfl, .inl ⟨by unfold J; split <;> omega, rfl, rfl, rfl, .inl ⟨hm, rfl, rfl, rfl⟩⟩⟩
    · have hj : j + 1 = n := by omega
      have ht : xs.take (j + 1) = xs := List.take_of_length_le (by omega)
      rw [if_neg hm, ht]
      by_cases h2 : tr' ≥ 2
      · refine ⟨rfl, .inl ⟨by unfold J; rw [if_pos h2]; omega, rfl, rfl, ?_, .inr ⟨by omega, by omega, h2, rfl, rfl, by rw [hj]; simp⟩⟩⟩
        simp only [decide_eq_false hne, Bool.false_or, decide_eq_false_iff_not]
        omega
      · refine ⟨rfl, .inr ⟨by unfold J; rw [if_neg h2]; exact hj, rfl, rfl, ?_, rfl, ?_, ?_⟩⟩
        · simp only [decide_eq_false hne, Bool.false_or, decide_eq_true_eq]
          omega
        · simp only [decide_eq_false hne, decide_eq_false h2]
        · simp only [if_neg h2]; rfl
  · subst g4 g5
    have e := see (j - n) (by omega)
    rw [← g6] at e
    have hl : (now ++ [seeAt was (now.length : Int)]).length = j - n + 1 := by rw [e, List.length_take]; omega
    have hN : nxt n was ⟨3, r, v, tr', ld, saw, was, now, false, ans, clean, 1⟩ = if j - n + 1 < n then (was, ⟨3, r, v, tr', ld, saw, was, was.take (j - n + 1), false, ans, clean, 1⟩, did 1 now.length (seeAt was now.length) (seeAt was now.length) true) else (was, ⟨3, r, v, tr', ld, saw, was.take (j - n + 1), [], decide (was = was.take (j - n + 1)) || decide ((1 : Int) + 1 ≥ tr'), was.take (j - n + 1), decide (was = was.take (j - n + 1)), 1 + 1⟩, did 1 now.length (seeAt was now.length) (seeAt was now.length) true) := by
      simp only [nxt, e]
      rw [if_neg (by decide), if_neg (by decide), show (was.take (j - n + 1)).length = j - n + 1 by rw [← e]; exact hl]
    rw [hN]
    by_cases hm : j - n + 1 < n
    · rw [if_pos hm]
      refine ⟨rfl, .inl ⟨by unfold J; rw [if_pos g3]; omega, rfl, rfl, rfl, .inr ⟨by omega, by omega, g3, rfl, rfl, ?_⟩⟩⟩
      rw [show j + 1 - n = j - n + 1 by omega]
    · have ht : was.take (j - n + 1) = was := List.take_of_length_le (by omega)
      rw [if_neg hm, ht]
      refine ⟨rfl, .inr ⟨by unfold J; rw [if_pos g3]; omega, rfl, rfl, by simp, rfl, ?_, ?_⟩⟩
      · simp [g3]
      · simp only [if_pos g3]; rfl
end Sn
namespace snst
theorem doneBody : Tryd.f42.body = some (codeOf Tryd.f42) := by kernel_rfl
theorem doneTmps : 2 ≤ Tryd.f42.ntmps := by decide +kernel
theorem all_one (xs : List Int) : (xs.flatMap regR).all oneC = true := by
  rw [List.all_eq_true]
  intro v hv
  obtain ⟨x, _, hx⟩ := List.mem_flatMap.1 hv
  simp only [regR, List.mem_cons, List.not_mem_nil, or_false] at hx
  rcases hx with rfl | rfl <;> rfl
theorem pS {α : Type} {A B C : List α} : ((A ++ B) ++ C).Perm (B ++ (A ++ C)) := by
  rw [← List.append_assoc B]
  exact List.perm_append_comm.append_right C
theorem swp {α : Type} {A B C : List α} : (A ++ (B ++ C)).Perm (B ++ (A ++ C)) := by
  rw [← List.append_assoc, ← List.append_assoc]
  exact List.perm_append_comm.append_right C
theorem pD {α : Type} {A B C D : List α} : ((A ++ B) ++ (C ++ D)).Perm ((C ++ A) ++ (B ++ D)) := by
  rw [List.append_assoc, List.append_assoc]
  exact (perm_in swp).trans swp
/-- A scan, whole. -/
theorem doneScan {W w0 : World} {O : Nat → Prop} {c cb ws n : Nat} {xs : List Int} {tr : Int} {F : Bks} {V : List Vec} (hx : xs.length = n) (hn0 : 0 < n) (hn1 : n ≤ 64) (hlu : Sy.Looks W usesC) (hro : ∀ x ∈ usesC, ¬ O x.1) (hO : ∀ b, O b → b = ws) (ht1 : 1 ≤ tr) (ht2 : tr ≤ 1024)
    (h : Res W O (snB c cb ws n ++ F) [] ([wordsV ws n n n (xs.map u64V)] ++ V) w0) :
    Calls Tryd.prog 42 #[ptrV c, .agg #[.int .u8 3, .int .i64 0, .int .u32 0, .int .i64 tr]] w0 fun e w' => ∃ g cap, e = .returned (.tuple #[.agg #[.slice (some ⟨g, 0, none⟩) n cap, .bool (decide (tr ≥ 2)), .int .i64 (if tr ≥ 2 then 2 else 1)], .int .i64 0]) ∧
      Res W O (snB c cb ws n ++ F) [] ([wordsV ws n n n (xs.map u64V)] ++ (regsV (some ⟨g, 0, none⟩) n cap (xs.flatMap regR) :: V)) w' := by
  refine calls_after (X := fun _ _ _ => False) Tryd.func42 doneBody doneTmps fun a1 ha => ?_
  refine Res.segV (F := snB c cb ws n) (V := []) hostA _ (dnA c cb ws n tr) dnA1_n (dnA1_1 c cb ws n tr) (dnA1_2 c cb ws n tr) h (Looks.nil W) (fun _ h => by cases h) no_ros rfl (by simp [dnA1_o, ht1, ht2]) (fun _ _ => rfl) (fun _ _ => rfl) ha fun ν j a2 w2 hfr2 hr2 => ?_
  obtain ⟨q, p, e1, e2, e3, e4⟩ : ∃ q p, (dnA1_o c cb ws n tr ν j).2.1 = dnK q (some ⟨p, 0, none⟩) 0 ∧ (dnA1_o c cb ws n tr ν j).2.2.news = [(p, 82, pdV c 3 0 0 tr false 0 none 0 0 none 0 0 false false 0 none 0 0)] ++ viewB q ∧ (dnA1_o c cb ws n tr ν j).2.2.blocks = snB c cb ws n ∧ (dnA1_o c cb ws n tr ν j).2.2.vecs = [] := ⟨_, _, rfl, rfl, rfl, rfl⟩
  rw [e1] at hfr2
  rw [e2, e3, e4] at hr2
  obtain ⟨u0, hu0⟩ : ∃ u0 : SP, u0 = ⟨⟨3, 0, 0, tr, false, 0, [], [], false, [], false, 0⟩, p, none, 0, none, 0, none, 0⟩ := ⟨_, rfl⟩
  have hp0 : u0.p = p := by rw [hu0]
  have hg0 : Sn.Good n u0 := by
    rw [hu0]
    exact ⟨by simp [Sn.right, ht1, ht2], rfl, rfl, hn0, fun h => absurd rfl h, fun _ => rfl, fun _ => ⟨by simp, by simp only; omega, .inl ⟨rfl, rfl, rfl, rfl⟩⟩⟩
  have hq0 : Sn.Q n xs tr 0 u0.d := by rw [hu0]; exact ⟨rfl, rfl, rfl, .inl ⟨hn0, rfl, rfl, by simp⟩⟩
  have hr3 : Res W O ((snB c cb ws n ++ blk c u0) ++ (viewB q ++ F)) [] ([wordsV ws n n n (xs.map u64V)] ++ (vcs u0 ++ V)) w2 := by
    have := res_nil (res_nil (res_nil hr2 63 2) 39 1) 39 1
    rw [hu0]
    refine this.perm ?_ ?_
    · exact pD (A := [_])
    · exact (List.perm_middle (a := wordsV ws n n n (xs.map u64V)) (l₁ := vcs ⟨⟨3, 0, 0, tr, false, 0, [], [], false, [], false, 0⟩, p, none, 0, none, 0, none, 0⟩) (l₂ := V))
  refine loop_after (i := 2) (by kernel_rfl) (fun d a w1 => ∃ (u : SP) (j : Nat), d = 2 * n + 1 - j ∧ u.p = p ∧ ((Sn.Good n u ∧ Sn.Q n xs tr j u.d) ∨ (Sn.QE xs tr u.d ∧ j ≤ 2 * n)) ∧ Fr Tryd.f42.ntmps (dnK q (some ⟨p, 0, none⟩) 0) a ∧ Res W O ((snB c cb ws n ++ blk c u) ++ (viewB q ++ F)) [] ([wordsV ws n n n (xs.map u64V)] ++ (vcs u ++ V)) w1) (2 * n + 1) ⟨u0, 0, rfl, hp0, .inl ⟨hg0, hq0⟩, hfr2, hr3⟩ ?_
  clear hr3 hq0 hg0 hp0 hu0 u0 hr2 hfr2 e1 e2 e3 e4
  rintro d a3 w3 ⟨u, jj, rfl, rfl, hQ, hfr3, hr3⟩ Y hY _
  have hF : Res W O (blk c u ++ (snB c cb ws n ++ (viewB q ++ F))) [] ([] ++ ([wordsV ws n n n (xs.map u64V)] ++ (vcs u ++ V))) w3 := hr3.perm pS (.refl _)
  rcases hQ with ⟨hg, hQ⟩ | ⟨⟨hk, htr, hov, hans, hcl, hco⟩, hjj⟩
  · have hov := hg.over
    refine Res.segV (F := blk c u) (V := []) hostA _ (dnR c q u.p u.d.k u.d.r u.d.v u.d.tr u.d.ld u.d.saw u.wa u.d.was.length u.wc u.na u.d.now.length u.nc u.d.over u.d.clean u.d.coll u.ra u.d.ans.length u.rc) dnR1_n (dnR1_1 c q u.p u.d.k u.d.r u.d.v u.d.tr u.d.ld u.d.saw u.wa u.d.was.length u.wc u.na u.d.now.length u.nc u.d.over u.d.clean u.d.coll u.ra u.d.ans.length u.rc) (dnR1_2 c q u.p u.d.k u.d.r u.d.v u.d.tr u.d.ld u.d.saw u.wa u.d.was.length u.wc u.na u.d.now.length u.nc u.d.over u.d.clean u.d.coll u.ra u.d.ans.length u.rc) (hF) (Looks.nil _) (fun _ h => by cases h) no_ros rfl ?_ (fun _ _ => rfl) (fun _ _ => rfl) hfr3 fun ν j a4 w4 hfr4 hr4 => ?_
    · simp [dnR1_o, hov]
    have hr4 : Res W O ((snB c cb ws n ++ blk c u) ++ (viewB q ++ F)) [] ([wordsV ws n n n (xs.map u64V)] ++ (vcs u ++ V)) w4 := (show Res W O (blk c u ++ (snB c cb ws n ++ (viewB q ++ F))) [] _ w4 from hr4).perm pS.symm (.refl _)
    refine (step hg hx hn1 hlu hro hO hr4).mono ?_
    rintro e w5 ⟨u', hp', hd', hg', rfl, hr5⟩
    refine ⟨_, rfl, ?_⟩
    obtain ⟨hx1, hx2⟩ := Sn.q_step hx hn0 ht1 hQ
    rw [hx1] at hr5
    have hfr5 := (hfr4.put (d := 22) (v := .tuple #[(nxt n xs u.d).2.2, .bool (nxt n xs u.d).2.1.over]) (by decide +kernel) (dnK q (some ⟨u.p, 0, none⟩) 0) (fun x hx => hx) (by simp [dnK])).less (fun x hx => List.mem_cons_of_mem _ hx)
    refine Res.segV (F := []) (V := []) hostA _ (dnS q u.p) dnS1_n (dnS1_1 q u.p) (dnS1_2 q u.p) ((show Res W O ([] ++ _) [] ([] ++ _) w5 from hr5)) (Looks.nil _) (fun _ h => by cases h) no_ros rfl ?_ (fun _ _ => rfl) (fun _ _ => rfl) hfr5 fun ν j a6 w6 hfr6 hr6 => ?_
    · simp [dnS1_o]
    have hj2 : jj + 1 ≤ 2 * n := by
      rcases hx2 with ⟨h, _⟩ | ⟨h, _⟩ <;> (unfold Sn.J at h; split at h <;> omega)
    refine hY (2 * n + 1 - (jj + 1)) a6 w6 (by omega) ⟨u', jj + 1, rfl, hp', ?_, hfr6, hr6⟩
    rw [hd']
    rcases hx2 with ⟨_, h⟩ | ⟨_, h⟩
    · exact .inl ⟨hg' (by rw [hd']; exact h.2.2.1), h⟩
    · exact .inr ⟨h, hj2⟩
  · obtain ⟨rb, hrb⟩ := (res_len hr3 (e := 63) (s := 2) (n := u.d.ans.length) (c := u.rc) (so := u.ra) (xs := u.d.ans.flatMap regR) (List.mem_cons_of_mem _ (List.mem_cons_of_mem _ (List.mem_cons_of_mem _ (List.mem_cons_self ..))))).2.2 (by rw [hans, hx]; exact hn0)
    have hra : u.d.ans.length = n := by rw [hans, hx]
    have hF2 : Res W O ((blk c u ++ viewB q) ++ (snB c cb ws n ++ F)) [] ([rV u.ra u.rc u.d.ans] ++ ([wordsV ws n n n (xs.map u64V), uV u.na u.nc u.d.now, uV u.wa u.wc u.d.was] ++ V)) w3 := hF.perm (by
      rw [List.append_assoc]
      exact perm_in swp) (List.perm_middle (a := rV u.ra u.rc u.d.ans) (l₁ := [wordsV ws n n n (xs.map u64V), uV u.na u.nc u.d.now, uV u.wa u.wc u.d.was]) (l₂ := V))
    have hblk : blk c u = [(u.p, 82, pdV c u.d.k u.d.r u.d.v u.d.tr u.d.ld u.d.saw u.wa u.d.was.length u.wc u.na u.d.now.length u.nc u.d.over u.d.clean u.d.coll (some ⟨rb, 0, none⟩) n u.rc)] := by rw [← hrb, ← hra]; rfl
    have hrV : rV u.ra u.rc u.d.ans = regsV (some ⟨rb, 0, none⟩) n u.rc (xs.flatMap regR) := by rw [hrb, rV, hra, hans]
    rw [hblk, hrV] at hF2
    refine Res.segV (V := [regsV (some ⟨rb, 0, none⟩) n u.rc (xs.flatMap regR)]) hostA _ (dnX c q u.p u.d.k u.d.r u.d.v u.d.tr u.d.ld u.d.saw u.wa u.d.was.length u.wc u.na u.d.now.length u.nc u.d.over u.d.clean u.d.coll rb n u.rc (xs.flatMap regR)) dnX1_n (dnX1_1 c q u.p u.d.k u.d.r u.d.v u.d.tr u.d.ld u.d.saw u.wa u.d.was.length u.wc u.na u.d.now.length u.nc u.d.over u.d.clean u.d.coll rb n u.rc (xs.flatMap regR)) (dnX1_2 c q u.p u.d.k u.d.r u.d.v u.d.tr u.d.ld u.d.saw u.wa u.d.was.length u.wc u.na u.d.now.length u.nc u.d.over u.d.clean u.d.coll rb n u.rc (xs.flatMap regR)) (hF2) (Looks.nil _) (fun _ h => by cases h) no_ros rfl ?_ (fun _ _ => rfl) (fun _ _ => rfl) hfr3 fun ν j a4 w4 hfr4 hr4 => ?_
    · simp only [dnX1_o, all_one, hov]
      simp [Nat.blt_eq, Nat.ble_eq, hn0]
      omega
    · obtain ⟨o, ho⟩ : ∃ o, o = dnX1_o c q u.p u.d.k u.d.r u.d.v u.d.tr u.d.ld u.d.saw u.wa u.d.was.length u.wc u.na u.d.now.length u.nc u.d.over u.d.clean u.d.coll rb n u.rc (xs.flatMap regR) ν j := ⟨_, rfl⟩
      rw [← ho] at hfr4 hr4
      rw [← ho]
      obtain ⟨g, cap, q1, q2, q3, q4⟩ : ∃ g cap, o.1 = .ret (.tuple #[.agg #[.slice (some ⟨g, 0, none⟩) n cap, .bool (decide (tr ≥ 2)), .int .i64 (if tr ≥ 2 then 2 else 1)], .int .i64 0]) ∧ o.2.2.news = [] ∧ (∃ B, o.2.2.blocks = B) ∧ o.2.2.vecs = [regsV (some ⟨rb, 0, none⟩) n u.rc (xs.flatMap regR), regsV (some ⟨g, 0, none⟩) n cap (xs.flatMap regR)] := by
        rw [ho]
        simp only [dnX1_o, hcl, hco]
        exact ⟨_, _, rfl, trivial, ⟨_, rfl⟩, rfl⟩
      obtain ⟨B, q3⟩ := q3
      rw [q2, q3, q4] at hr4
      rw [q1]
      have hr5 := hr4.perm (F' := B ++ (snB c cb ws n ++ F)) (V' := [wordsV ws n n n (xs.map u64V), regsV (some ⟨g, 0, none⟩) n cap (xs.flatMap regR), uV u.na u.nc u.d.now, uV u.wa u.wc u.d.was, regsV (some ⟨rb, 0, none⟩) n u.rc (xs.flatMap regR)] ++ V) (.refl _)
        ((List.perm_middle (a := regsV (some ⟨rb, 0, none⟩) n u.rc (xs.flatMap regR)) (l₁ := [regsV (some ⟨g, 0, none⟩) n cap (xs.flatMap regR), wordsV ws n n n (xs.map u64V), uV u.na u.nc u.d.now, uV u.wa u.wc u.d.was]) (l₂ := V)).symm.trans (.swap ..))
      exact ⟨g, cap, rfl, hr5.less (List.sublist_append_right B _) (.refl _) (.cons_cons _ (.cons_cons _ (.cons _ (.cons _ (.cons _ (.refl _))))))⟩
end snst
end Go.Proofs.YtmihblocomnfjaaDoor
