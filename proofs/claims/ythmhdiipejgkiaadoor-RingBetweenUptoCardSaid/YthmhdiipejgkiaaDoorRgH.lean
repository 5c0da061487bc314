/- Rings: Sum, Each as contracts. -/
import Derived.Test.YthmhdiipejgkiaaDoorRgG
set_option linter.unusedSimpArgs false
set_option linter.unusedVariables false
namespace Go.Proofs.YthmhdiipejgkiaaDoor
open Go Sy Close
set_option maxRecDepth 100000
namespace Rg
def sumR (n : Nat) (w t : Int) (xs : List Int) : List Int := slots xs n (k0 (t / w) n) (many (t / w) n)
end Rg
def rsumP (args : Array Value) : CP := match args.toList with
  | [.pointer (some ⟨c, 0, none⟩), .int .i64 t] => loadsB 0 usesL <| loadRing c fun _ _ n cap sl w xs => needs (sumOk n cap sl w t) <| .test (Rg.bad w t 0) fun g => match g with
    | true => .done 0 fun _ => { res := .tuple #[.int .u64 0, errV 2] }
    | false => .done 0 fun _ => { res := .tuple #[.int .u64 (Rg.tot (Rg.sumR n w t xs)), errV 0] }
  | _ => .fail
def reachZ (n : Nat) (w t : Int) (xs : List Int) (g cap : Nat) : Sy.Ends := { res := .tuple #[.slice (some ⟨g, 0, none⟩) (Rg.many (t / w) n) cap, errV 0], vecs := [u64sV (some ⟨g, 0, none⟩) (Rg.many (t / w) n) cap ((Rg.sumR n w t xs).map u64V)] }
def reachP (args : Array Value) : CP := match args.toList with
  | [.pointer (some ⟨c, 0, none⟩), .int .i64 t] => loadsB 0 usesL <| loadRing c fun _ _ n cap sl w xs => needs (sumOk n cap sl w t) <| .test (Rg.bad w t 0) fun g => match g with
    | true => .done 0 fun _ => { res := .tuple #[.slice none 0 0, errV 2] }
    | false => .done 2 fun l => match l with
      | [g, cap] => reachZ n w t xs g cap
      | _ => { res := nilP }
  | _ => .fail
theorem rsum_ok : (⟨13, rsumP⟩ : Contract).Ok Tryd.prog := con_start fun args w0 => by
  unfold rsumP
  split
  · rename_i c t hargs
    obtain rfl := args_of hargs
    refine good_bools (good_ptr fun cb => good_i64 fun sl => good_i64 fun w => good_sl fun ws n cap => good_words fun n' xs => good_needs fun hn => good_test ?_)
    have hn' := hn
    simp only [sumOk, ringOk, Bool.and_eq_true, decide_eq_true_eq, Nat.blt_eq, Nat.beq_eq, Nat.ble_eq] at hn'
    obtain ⟨⟨⟨⟨⟨rfl, rfl⟩, hn0⟩, hw⟩, hn1⟩, ht⟩ := hn'
    have rows : ∀ {l : List (Nat × Nat × Value)}, RowsOk w0 l [(⟨123, 1, .slice (some ⟨ws, 0, none⟩) cap cap, n', xs.map u64V⟩ : Vec)] → n' = cap := fun hr => (owns_at (hr.row _ (List.mem_singleton.2 rfl))).1
    cases hbad : Rg.bad w t 0 with
    | true =>
      refine good_doneR fun hl hr => ?_
      have e1 := rows hr
      subst e1
      have hro : ∀ x ∈ ringL c cb ws n' w, ¬ ∃ y ∈ [(⟨123, 1, .slice (some ⟨ws, 0, none⟩) n' n', n', xs.map u64V⟩ : Vec)], y.v.ownBlock = some x.1 := fun x hx ⟨y, hy, e⟩ => hr.off y hy _ e x hx rfl
      refine calls_after (X := fun _ _ _ => False) (fn := Tryd.f13) Tryd.func13 rfl (show 2 ≤ Tryd.f13.ntmps by decide) fun a hfr => ?_
      refine Res.segV (F := []) (GF := []) (V := [wordsV ws n' n' n' (xs.map u64V)]) (GV := []) hostW _ (suA c cb ws n' w xs t) suA1_n (suA1_1 c cb ws n' w xs t) (suA1_2 c cb ws n' w xs t) (Res.rows hr) hl hro no_ros rfl (by simp [suA1_o, hbad, hn, isU64, u64V]) (fun _ _ => rfl) (fun _ _ => rfl) hfr fun ν j a1 w1 hfr1 hr1 => ?_
      refine ⟨[], rfl, rfl, ?_⟩
      exact Res.metR (z := ({ res := .tuple #[.int .u64 0, errV 2] } : Sy.Ends)) (ls := []) (GV := []) (GF := []) (L := []) hr1 rfl (by simp)
    | false =>
      refine good_doneR fun hl hr => ?_
      have e1 := rows hr
      subst e1
      have hro : ∀ x ∈ ringL c cb ws n' w, ¬ ∃ y ∈ [(⟨123, 1, .slice (some ⟨ws, 0, none⟩) n' n', n', xs.map u64V⟩ : Vec)], y.v.ownBlock = some x.1 := fun x hx ⟨y, hy, e⟩ => hr.off y hy _ e x hx rfl
      refine calls_after (X := fun _ _ _ => False) (fn := Tryd.f13) Tryd.func13 rfl (show 2 ≤ Tryd.f13.ntmps by decide) fun a hfr => ?_
      refine Res.segV (F := []) (GF := []) (V := [wordsV ws n' n' n' (xs.map u64V)]) (GV := []) hostW _ (suA c cb ws n' w xs t) suA2_n (suA2_1 c cb ws n' w xs t) (suA2_2 c cb ws n' w xs t) (Res.rows hr) hl hro no_ros rfl (by simp [suA2_o, hbad, hn, isU64, u64V]) (fun _ _ => rfl) (fun _ _ => rfl) hfr fun ν j a1 w1 hfr1 hr1 => ?_
      obtain ⟨g, co, q1, q2, q3⟩ : ∃ g co, (suA2_o c cb ws n' w xs t ν j).2.2.vecs = [wordsV ws n' n' n' (xs.map u64V), u64sV (some ⟨g, 0, none⟩) (Rg.many (t / w) n') co ((Rg.sumR n' w t xs).map u64V)] ∧ (suA2_o c cb ws n' w xs t ν j).1 = .ret (.tuple #[.int .u64 (Rg.tot (Rg.sumR n' w t xs)), errV 0]) ∧ (suA2_o c cb ws n' w xs t ν j).2.2.news = [] ∧ (suA2_o c cb ws n' w xs t ν j).2.2.blocks = [] := by
        simp only [suA2_o, map_valU]
        exact ⟨_, _, rfl, rfl, trivial, trivial⟩
      rw [q1, q3.1, q3.2] at hr1
      rw [q2]
      refine ⟨[], rfl, rfl, ?_⟩
      exact Res.metR (z := ({ res := .tuple #[.int .u64 (Rg.tot (Rg.sumR n' w t xs)), errV 0] } : Sy.Ends)) (ls := []) (GV := [u64sV (some ⟨g, 0, none⟩) (Rg.many (t / w) n') co ((Rg.sumR n' w t xs).map u64V)]) (GF := []) (L := []) hr1 rfl (by simp)
  · exact good_fail
theorem reach_ok : (⟨14, reachP⟩ : Contract).Ok Tryd.prog := con_start fun args w0 => by
  unfold reachP
  split
  · rename_i c t hargs
    obtain rfl := args_of hargs
    refine good_bools (good_ptr fun cb => good_i64 fun sl => good_i64 fun w => good_sl fun ws n cap => good_words fun n' xs => good_needs fun hn => good_test ?_)
    have hn' := hn
    simp only [sumOk, ringOk, Bool.and_eq_true, decide_eq_true_eq, Nat.blt_eq, Nat.beq_eq, Nat.ble_eq] at hn'
    obtain ⟨⟨⟨⟨⟨rfl, rfl⟩, hn0⟩, hw⟩, hn1⟩, ht⟩ := hn'
    have rows : ∀ {l : List (Nat × Nat × Value)}, RowsOk w0 l [(⟨123, 1, .slice (some ⟨ws, 0, none⟩) cap cap, n', xs.map u64V⟩ : Vec)] → n' = cap := fun hr => (owns_at (hr.row _ (List.mem_singleton.2 rfl))).1
    cases hbad : Rg.bad w t 0 with
    | true =>
      refine good_doneR fun hl hr => ?_
      have e1 := rows hr
      subst e1
      have hro : ∀ x ∈ ringL c cb ws n' w, ¬ ∃ y ∈ [(⟨123, 1, .slice (some ⟨ws, 0, none⟩) n' n', n', xs.map u64V⟩ : Vec)], y.v.ownBlock = some x.1 := fun x hx ⟨y, hy, e⟩ => hr.off y hy _ e x hx rfl
      refine calls_after (X := fun _ _ _ => False) (fn := Tryd.f14) Tryd.func14 rfl (show 2 ≤ Tryd.f14.ntmps by decide) fun a hfr => ?_
      refine Res.segV (F := []) (GF := []) (V := [wordsV ws n' n' n' (xs.map u64V)]) (GV := []) hostW _ (eaA c cb ws n' w xs t) eaA1_n (eaA1_1 c cb ws n' w xs t) (eaA1_2 c cb ws n' w xs t) (Res.rows hr) hl hro no_ros rfl (by simp [eaA1_o, hbad, hn, isU64, u64V]) (fun _ _ => rfl) (fun _ _ => rfl) hfr fun ν j a1 w1 hfr1 hr1 => ?_
      refine ⟨[], rfl, rfl, ?_⟩
      exact Res.metR (z := ({ res := .tuple #[.slice none 0 0, errV 2] } : Sy.Ends)) (ls := []) (GV := []) (GF := []) (L := []) hr1 rfl (by simp)
    | false =>
      refine good_doneR fun hl hr => ?_
      have e1 := rows hr
      subst e1
      have hro : ∀ x ∈ ringL c cb ws n' w, ¬ ∃ y ∈ [(⟨123, 1, .slice (some ⟨ws, 0, none⟩) n' n', n', xs.map u64V⟩ : Vec)], y.v.ownBlock = some x.1 := fun x hx ⟨y, hy, e⟩ => hr.off y hy _ e x hx rfl
      refine calls_after (X := fun _ _ _ => False) (fn := Tryd.f14) Tryd.func14 rfl (show 2 ≤ Tryd.f14.ntmps by decide) fun a hfr => ?_
      refine Res.segV (F := []) (GF := []) (V := [wordsV ws n' n' n' (xs.map u64V)]) (GV := []) hostW _ (eaA c cb ws n' w xs t) eaA2_n (eaA2_1 c cb ws n' w xs t) (eaA2_2 c cb ws n' w xs t) (Res.rows hr) hl hro no_ros rfl (by simp [eaA2_o, hbad, hn, isU64, u64V]) (fun _ _ => rfl) (fun _ _ => rfl) hfr fun ν j a1 w1 hfr1 hr1 => ?_
      obtain ⟨g, co, q1, q2, q3⟩ : ∃ g co, (eaA2_o c cb ws n' w xs t ν j).2.2.vecs = [wordsV ws n' n' n' (xs.map u64V), u64sV (some ⟨g, 0, none⟩) (Rg.many (t / w) n') co ((Rg.sumR n' w t xs).map u64V)] ∧ (eaA2_o c cb ws n' w xs t ν j).1 = .ret (.tuple #[.slice (some ⟨g, 0, none⟩) (Rg.many (t / w) n') co, errV 0]) ∧ (eaA2_o c cb ws n' w xs t ν j).2.2.news = [] ∧ (eaA2_o c cb ws n' w xs t ν j).2.2.blocks = [] := by
        simp only [eaA2_o, map_valU]
        exact ⟨_, _, rfl, rfl, trivial, trivial⟩
      rw [q1, q3.1, q3.2] at hr1
      rw [q2]
      refine ⟨[g, co], rfl, rfl, ?_⟩
      exact Res.metR (z := reachZ n' w t xs g co) (ls := [g, co]) (GV := []) (GF := []) (L := []) hr1 rfl (by simp [reachZ])
  · exact good_fail
end Go.Proofs.YthmhdiipejgkiaaDoor
