/- The document's Whole for sharded counters as a contract. -/
import Derived.Test.YtfdgggikjnoghaaDoorShYB
namespace Go.Proofs.YtfdgggikjnoghaaDoor
open Go Sy Close
set_option maxRecDepth 100000
namespace Sk
def inUB (xs : List Int) : Bool := xs.all fun x => decide (w64 x = x)
theorem inUB_iff {xs : List Int} : inUB xs = true ↔ InU xs := by simp [inUB, InU]
theorem run_prog {n : Nat} (hn : 0 < n) (hm : n ≤ 64) : ∀ (f : Nat) (xs : List Int) (r : RU), RGood n r → InU xs → InU (run f xs (prog n r)).1
  | 0, xs, r, _, hu => hu
  | f + 1, xs, r, hg, hu => by
    cases he : ended n r with
    | true => rw [run_over (show (prog n r).over = true from he)]; exact hu
    | false =>
      obtain ⟨_, z2, _, _, z5, z6, _, _⟩ := sim hn (by omega) hg he hu
      rw [run_step (show (prog n r).over = false from he), z2]
      exact run_prog hn hm f _ _ z5 z6
theorem prog_new {n : Nat} {k w b : Int} (hn : 0 < n) (hm : n ≤ 64) : prog n ⟨k, w, b, 0, 0⟩ = start n k w b := by
  have : ended n ⟨k, w, b, 0, 0⟩ = false := by
    have := (many_pos (n := n) (k := k) hn (by omega)).1
    simp only [ended, decide_eq_false_iff_not]; omega
  simp only [prog, start, this, Int.add_zero]
theorem new_good {n : Nat} {k w b : Int} (hr : right k w b = true) (hn : 0 < n) (hm : n ≤ 64) : RGood n ⟨k, w, b, 0, 0⟩ := ⟨hr, Int.le_refl _, by have := (many_pos (n := n) (k := k) hn (by omega)).1; simp only; omega⟩
end Sk
def wholeZ (g cap n : Nat) (xs : List Int) (k w b : Int) : Sy.Ends := { res := .tuple #[.slice (some ⟨g, 0, none⟩) n cap, .int .u64 (Sk.run n xs (Sk.start n k w b)).2.sum], vecs := [u64sV (some ⟨g, 0, none⟩) n cap ((Sk.run n xs (Sk.start n k w b)).1.map u64V)] }
def wholeP (args : Array Value) : CP := match args.toList with
  | [.slice (some ⟨lb, 0, none⟩) n c, .agg ⟨[.int .u8 k, .int .i64 w, .int .u64 b]⟩] => needs (Nat.blt 0 n && Nat.ble n 64 && Sk.right k w b) <| loadNums (.slice (some ⟨lb, 0, none⟩) n c) fun _ xs => needs (Sk.inUB xs) <| .done 2 fun l => match l with
    | [g, cap] => wholeZ g cap n xs k w b
    | _ => { res := nilP }
  | _ => .fail
structure WInv (w0 : World) (R : List Vec) (n : Nat) (o u : Nat) (k w b : Int) (xs0 : List Int) (lb c : Nat) (sb sc : Nat) (r : Sk.RU) (xs : List Int) (w1 : World) : Prop where
  res : ∃ G, Res w0 (fun k => ∃ x ∈ R, x.v.ownBlock = some k) (opB o r.k r.w r.b ++ unB u r.k r.w r.b r.at_ r.sum) [] ([u64sV (some ⟨sb, 0, none⟩) n sc (xs.map u64V)] ++ G) w1 ∧ (r.at_ = 0 ∧ sb = lb ∧ sc = c ∧ xs = xs0 ∧ G = [] ∨ r.at_ ≠ 0 ∧ ∃ G', G.Perm (R ++ G'))
  good : Sk.RGood n r
  inU : Sk.InU xs
  run : Sk.run n xs0 (Sk.start n k w b) = Sk.run (Sk.left (Sk.prog n r)) xs (Sk.prog n r)
theorem whole_ok : (⟨29, wholeP⟩ : Contract).Ok Tryd.prog := con_start fun args w0 => by
  unfold wholeP
  split
  · rename_i lb n c k w b hargs
    obtain rfl := args_of hargs
    refine good_needs fun hn => good_u64s fun n' xs => good_needs fun hu => good_doneR fun hl hrw => ?_
    simp only [Bool.and_eq_true, Nat.blt_eq, Nat.ble_eq] at hn
    obtain ⟨⟨hn0, hn1⟩, hrt⟩ := hn
    have hrow : w0.ownsRow 0 32 1 (.slice (some ⟨lb, 0, none⟩) n c) n' (xs.map u64V) := hrw.row _ (List.mem_singleton.2 rfl)
    obtain ⟨e1, e2, _⟩ := owns_at hrow
    subst e1
    rw [List.length_map] at e2
    have hin := Sk.inUB_iff.1 hu
    refine calls_after (X := fun _ _ _ => False) (fn := Tryd.f29) Tryd.func29 rfl (show 2 ≤ Tryd.f29.ntmps by decide) fun a hfr => ?_
    have hR := Res.rows hrw
    refine Res.segV (F := []) (GF := []) (V := []) host5 _ (whA lb n' c k w b) whA1_n (whA1_1 lb n' c k w b) (whA1_2 lb n' c k w b) hR (Looks.nil w0) (fun _ h => by cases h) no_ros rfl (by simp [whA1_o]) (fun _ _ => rfl) (fun _ _ => rfl) hfr fun ν j a1 w1 hfr1 hr1 => ?_
    obtain ⟨o, u, q1, q2⟩ : ∃ o u, (whA1_o lb n' c k w b ν j).2.1 = [(0, .slice (some ⟨lb, 0, none⟩) n' c), (3, ptrV o), (6, ptrV u)] ∧ (whA1_o lb n' c k w b ν j).2.2.news = unB u k w b 0 0 ++ opB o k w b := ⟨_, _, rfl, rfl⟩
    rw [q1] at hfr1
    rw [q2] at hr1
    have hg0 := Sk.new_good hrt hn0 hn1
    have hm : n' ≤ 9223372036854775807 := by omega
    have hI : WInv w0 [⟨32, 1, .slice (some ⟨lb, 0, none⟩) n' c, n', xs.map u64V⟩] n' o u k w b xs lb c lb c ⟨k, w, b, 0, 0⟩ xs w1 := by
      refine ⟨⟨[], hr1.perm (F' := opB o k w b ++ unB u k w b 0 0) (.swap ..) (.refl _), .inl ⟨rfl, rfl, rfl, rfl, rfl⟩⟩, hg0, hin, ?_⟩
      rw [Sk.prog_new hn0 hn1]
      exact Sk.run_left hm _ _ _ (Sk.start_live hrt hn0 hm) (Sk.left_start hrt hn0 hm)
    refine loop_after (i := 2) (by kernel_rfl) (fun d a w2 => ∃ sb sc r xs', d = (65536 - r.at_).toNat ∧ Fr Tryd.f29.ntmps [(0, .slice (some ⟨sb, 0, none⟩) n' sc), (3, ptrV o), (6, ptrV u)] a ∧ WInv w0 [⟨32, 1, .slice (some ⟨lb, 0, none⟩) n' c, n', xs.map u64V⟩] n' o u k w b xs lb c sb sc r xs' w2) 65536 ⟨lb, c, ⟨k, w, b, 0, 0⟩, xs, by simp, hfr1, hI⟩ ?_
    rintro d a2 w2 ⟨sb, sc, r, xs', rfl, hfr2, ⟨⟨G, hres, hG⟩, hg, hu2, hrun⟩⟩ Y hY _
    have hlen : xs'.length = n' := by
      have := (res_len hres (e := 32) (s := 1) (n := n') (c := sc) (so := some ⟨sb, 0, none⟩) (xs := xs'.map u64V) (List.mem_cons_self ..)).2.1
      simpa using this
    have hmp := Sk.many_pos (n := n') (k := r.k) hn0 (by omega)
    have h0 := hg.at0
    cases hov : Sk.ended n' r with
    | true =>
      have hat : manyOf n' r.k ≤ r.at_ := of_decide_eq_true hov
      refine Res.segV (V := [u64sV (some ⟨sb, 0, none⟩) n' sc (xs'.map u64V)]) (GF := []) host5 _ (whR sb n' sc o u xs' r.k r.w r.b r.at_ r.sum) whR2_n (whR2_1 sb n' sc o u xs' r.k r.w r.b r.at_ r.sum) (whR2_2 sb n' sc o u xs' r.k r.w r.b r.at_ r.sum) hres (Looks.nil w0) (fun _ h => by cases h) no_ros rfl (by simp [whR2_o]; omega) (fun _ _ => rfl) (fun _ _ => rfl) hfr2 fun ν j a3 w3 hfr3 hr3 => ?_
      have hend : Sk.run n' xs (Sk.start n' k w b) = (xs', Sk.prog n' r) := by rw [hrun, Sk.run_over (show (Sk.prog n' r).over = true from hov)]
      refine ⟨[sb, sc], rfl, by simp only [wholeZ, hend]; rfl, ?_⟩
      rcases hG with ⟨h, _⟩ | ⟨_, G', hG'⟩
      · omega
      have := hr3.perm (F' := [] ++ (opB o r.k r.w r.b ++ unB u r.k r.w r.b r.at_ r.sum)) (V' := [⟨32, 1, .slice (some ⟨lb, 0, none⟩) n' c, n', xs.map u64V⟩] ++ ([u64sV (some ⟨sb, 0, none⟩) n' sc (xs'.map u64V)] ++ G')) (.refl _) (((perm_in hG').trans (perm3 [u64sV (some ⟨sb, 0, none⟩) n' sc (xs'.map u64V)] [_] G')).trans (perm_in List.perm_append_comm))
      refine Res.metR (z := wholeZ sb sc n' xs k w b) (ls := [sb, sc]) (GV := G') (GF := opB o r.k r.w r.b ++ unB u r.k r.w r.b r.at_ r.sum) (L := []) ?_ rfl (by simp [wholeZ])
      simp only [wholeZ, hend]
      exact this
    | false =>
      have hat := of_decide_eq_false hov
      obtain ⟨z1, z2, _, _, z5, z6, z7, z8⟩ := Sk.sim hn0 (by omega) hg hov hu2
      have hkd : Sk.kinds r.k = true := by rcases Sk.kinds_of hg.right with h | h | h | h <;> simp [Sk.kinds, Sk.isOne, Sk.isAll, h]
      refine Res.segV (V := [u64sV (some ⟨sb, 0, none⟩) n' sc (xs'.map u64V)]) (GF := []) host5 _ (whR sb n' sc o u xs' r.k r.w r.b r.at_ r.sum) whR1_n (whR1_1 sb n' sc o u xs' r.k r.w r.b r.at_ r.sum) (whR1_2 sb n' sc o u xs' r.k r.w r.b r.at_ r.sum) hres (Looks.nil w0) (fun _ h => by cases h) no_ros rfl (by
        intro ν j
        simp only [whR1_o, all_u64, map_valU]
        simp [hkd, z7, z8, hn0]
        omega) (fun _ _ => rfl) (fun _ _ => rfl) hfr2 fun ν j a3 w3 hfr3 hr3 => ?_
      obtain ⟨o', ho⟩ : ∃ o', o' = whR1_o sb n' sc o u xs' r.k r.w r.b r.at_ r.sum ν j := ⟨_, rfl⟩
      rw [← ho] at hfr3 hr3
      have hw1 : (Sk.rnext n' xs' r).at_ = r.at_ + 1 := Sk.wrap_same (by omega) (by omega)
      obtain ⟨g, cap, q1, q2, q3, q4⟩ : ∃ g cap, o'.2.1 = [(0, .slice (some ⟨g, 0, none⟩) n' cap), (3, ptrV o), (6, ptrV u)] ∧ o'.2.2.news = [] ∧ o'.2.2.blocks = opB o r.k r.w r.b ++ unB u r.k r.w r.b (Sk.rnext n' xs' r).at_ (Sk.rnext n' xs' r).sum ∧ o'.2.2.vecs = [u64sV (some ⟨sb, 0, none⟩) n' sc (xs'.map u64V), u64sV (some ⟨g, 0, none⟩) n' cap ((Sk.step xs' (Sk.prog n' r)).xs.map u64V)] := by
        rw [ho, z1]
        refine ⟨_, _, rfl, rfl, ?_, ?_⟩
        · simp only [whR1_o, map_valU]; rfl
        · simp only [whR1_o, map_valU]; rfl
      rw [q1] at hfr3
      rw [q2, q3, q4] at hr3
      refine hY _ a3 w3 ?_ ⟨g, cap, Sk.rnext n' xs' r, (Sk.step xs' (Sk.prog n' r)).xs, rfl, hfr3, ⟨⟨u64sV (some ⟨sb, 0, none⟩) n' sc (xs'.map u64V) :: G, ?_, .inr ⟨by omega, ?_⟩⟩, z5, z6, ?_⟩⟩
      · rw [hw1]; omega
      · exact hr3.perm (.refl _) (.swap ..)
      · rcases hG with ⟨_, rfl, rfl, rfl, rfl⟩ | ⟨_, G', hG'⟩
        · exact ⟨[], .refl _⟩
        · exact ⟨u64sV (some ⟨sb, 0, none⟩) n' sc (xs'.map u64V) :: G', (hG'.cons _).trans (perm3 [_] [_] G' |>.trans (perm_in List.perm_append_comm))⟩
      · obtain ⟨_, s2, s3⟩ := Sk.step_live (xs := xs') (Sk.prog_live hn0 hm hg) hov hm
        rw [hrun, s3, Sk.run_step (show (Sk.prog n' r).over = false from hov), z2]
  · exact good_fail
end Go.Proofs.YtfdgggikjnoghaaDoor
