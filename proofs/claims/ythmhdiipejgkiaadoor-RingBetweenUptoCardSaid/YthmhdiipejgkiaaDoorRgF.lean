/- Rings: a whole sum as a contract. -/
import Derived.Test.YthmhdiipejgkiaaDoorRgE
set_option linter.unusedSimpArgs false
set_option linter.unusedVariables false
namespace Go.Proofs.YthmhdiipejgkiaaDoor
open Go Sy Close
set_option maxRecDepth 100000
namespace Rg
def k0 (q : Int) (n : Nat) : Int := if 0 > q - n + 1 then 0 else q - n + 1
def slot (xs : List Int) (n : Nat) (k : Int) : Int := held k (seeAt xs (at_ k n))
def slots (xs : List Int) (n : Nat) (k : Int) (i : Nat) : List Int := (List.range i).map fun j : Nat => slot xs n (k + (j : Int))
def tot (l : List Int) : Int := l.foldl (fun a x => w64 (a + x)) 0
def many (q : Int) (n : Nat) : Nat := (q - k0 q n + 1).toNat
theorem slots_succ (xs : List Int) (n : Nat) (k : Int) (i : Nat) : slots xs n k (i + 1) = slots xs n k i ++ [slot xs n (k + i)] := by simp [slots, List.range_succ]
theorem tot_snoc (l : List Int) (x : Int) : tot (l ++ [x]) = w64 (tot l + x) := by simp [tot]
theorem slots_len (xs : List Int) (n : Nat) (k : Int) (i : Nat) : (slots xs n k i).length = i := by simp [slots]
theorem k0_le {q : Int} {n : Nat} (hq : 0 ≤ q) (hn : 0 < n) : 0 ≤ k0 q n ∧ k0 q n ≤ q ∧ q < k0 q n + n := by unfold k0; split <;> omega
end Rg
def wholeZ (c n : Nat) (w t : Int) (xs : List Int) (p g cap : Nat) : Sy.Ends :=
  { res := .tuple #[ptrV p, errV 0]
    news := [(90, sumV c t (t / w + 1) (Rg.tot (Rg.slots xs n (Rg.k0 (t / w) n) (Rg.many (t / w) n))) true (Rg.tot (Rg.slots xs n (Rg.k0 (t / w) n) (Rg.many (t / w) n))) (some ⟨g, 0, none⟩) (Rg.many (t / w) n) cap)]
    vecs := [u64sV (some ⟨g, 0, none⟩) (Rg.many (t / w) n) cap ((Rg.slots xs n (Rg.k0 (t / w) n) (Rg.many (t / w) n)).map u64V)] }
def sumOk (n cap : Nat) (sl w t : Int) : Bool := ringOk n cap sl w && Nat.ble n 4096 && decide (t < 9223372036854775808)
def wholeP (args : Array Value) : CP := match args.toList with
  | [.pointer (some ⟨c, 0, none⟩), .agg ⟨[.int .u8 k, .int .i64 t, .int .u64 N]⟩] => loadsB 0 usesL <| loadRing c fun _ _ n cap sl w xs => needs (sumOk n cap sl w t && decide (k = 2) && decide (N = 0)) <| .test (Rg.bad w t 0) fun g => match g with
    | true => .done 0 fun _ => { res := .tuple #[nilP, errV 2] }
    | false => .done 3 fun l => match l with
      | [p, g, cap] => wholeZ c n w t xs p g cap
      | _ => { res := nilP }
  | _ => .fail
theorem whole_ok : (⟨36, wholeP⟩ : Contract).Ok Tryd.prog := con_start fun args w0 => by
  unfold wholeP
  split
  · rename_i c k t N hargs
    obtain rfl := args_of hargs
    refine good_bools (good_ptr fun cb => good_i64 fun sl => good_i64 fun w => good_sl fun ws n cap => good_words fun n' xs => good_needs fun hn => good_test ?_)
    simp only [sumOk, ringOk, Bool.and_eq_true, decide_eq_true_eq, Nat.blt_eq, Nat.beq_eq, Nat.ble_eq] at hn
    obtain ⟨⟨⟨⟨⟨⟨⟨rfl, rfl⟩, hn0⟩, hw⟩, hn1⟩, ht⟩, rfl⟩, rfl⟩ := hn
    have rows : ∀ {l : List (Nat × Nat × Value)}, RowsOk w0 l [(⟨123, 1, .slice (some ⟨ws, 0, none⟩) cap cap, n', xs.map u64V⟩ : Vec)] → n' = cap ∧ xs.length = cap := fun hr => by
      obtain ⟨e1, e2, _⟩ := owns_at (hr.row _ (List.mem_singleton.2 rfl))
      rw [List.length_map] at e2
      exact ⟨e1, e2⟩
    have hw0 : ¬ w = 0 := by omega
    cases hbad : Rg.bad w t 0 with
    | true =>
      refine good_doneR fun hl hr => ?_
      obtain ⟨e1, e2⟩ := rows hr
      subst e1
      by_cases h0 : t < 0
      · exact good_walkR hostD whole1_n (c := wholeC c cb ws n' w xs t) (whole1_1 c cb ws n' w xs t) (whole1_2 c cb ws n' w xs t) (by simp [whole1_o, h0]) rfl hl hr fun ν => ⟨[], rfl, rfl, rfl, .same _, rfl, rfl⟩
      · have h1 : t / w > 4294967295 := by
          simp only [Rg.bad, Bool.or_eq_true, decide_eq_true_eq] at hbad
          omega
        have hq := Rg.tdiv_eq (show 0 ≤ t by omega) ht hw
        exact good_walkR hostD whole2_n (c := wholeC c cb ws n' w xs t) (whole2_1 c cb ws n' w xs t) (whole2_2 c cb ws n' w xs t) (by simp only [whole2_o, hq]; simp [h0, h1, hw0] <;> omega) rfl hl hr fun ν => ⟨[], rfl, rfl, rfl, .same _, rfl, rfl⟩
    | false =>
      refine good_doneR fun hl hr => ?_
      obtain ⟨e1, e2⟩ := rows hr
      subst e1
      simp only [Rg.bad, Bool.or_eq_false_iff, decide_eq_false_iff_not] at hbad
      obtain ⟨⟨h0, h1⟩, _⟩ := hbad
      have h0' : 0 ≤ t := by omega
      have hq := Rg.tdiv_eq h0' ht hw
      have hq0 : 0 ≤ t / w := Rg.div_nonneg h0' hw
      obtain ⟨q, hqe⟩ : ∃ q, q = t / w := ⟨_, rfl⟩
      rw [← hqe] at hq hq0 h1
      obtain ⟨hk0, hk1, hk2⟩ := Rg.k0_le hq0 hn0
      have hmn : Rg.many q n' ≤ n' ∧ (Rg.many q n' : Int) = q - Rg.k0 q n' + 1 := by unfold Rg.many; omega
      have hro : ∀ x ∈ ringL c cb ws n' w, ¬ ∃ y ∈ [(⟨123, 1, .slice (some ⟨ws, 0, none⟩) n' n', n', xs.map u64V⟩ : Vec)], y.v.ownBlock = some x.1 := fun x hx ⟨y, hy, e⟩ => hr.off y hy _ e x hx rfl
      refine calls_after (X := fun _ _ _ => False) (fn := Tryd.f36) Tryd.func36 rfl (show 2 ≤ Tryd.f36.ntmps by decide) fun a hfr => ?_
      refine Res.segV (F := []) (GF := []) (V := []) hostD _ (wsA c cb ws n' w t) wsA1_n (wsA1_1 c cb ws n' w t) (wsA1_2 c cb ws n' w t) (Res.rows hr) hl hro no_ros rfl (by simp only [wsA1_o, hq]; simp [h0, h1, hw0]) (fun _ _ => rfl) (fun _ _ => rfl) hfr fun ν j a1 w1 hfr1 hr1 => ?_
      have hk : (if 0 > IntKind.i64.wrap (IntKind.i64.wrap (IntKind.i64.wrap (Int.tdiv t w) - (n' : Int)) + 1) then 0 else IntKind.i64.wrap (IntKind.i64.wrap (IntKind.i64.wrap (Int.tdiv t w) - (n' : Int)) + 1)) = Rg.k0 q n' := by
        rw [hq, wrap_i64 (x := q - n') (by omega) (by omega), wrap_i64 (by omega) (by omega)]
        rfl
      obtain ⟨p, q1, q2⟩ : ∃ p, (wsA1_o c cb ws n' w t ν j).2.1 = wsK p ∧ (wsA1_o c cb ws n' w t ν j).2.2.news = [(p, 90, sumV c t (Rg.k0 q n') 0 false 0 none 0 0)] := by
        refine ⟨_, rfl, ?_⟩
        simp only [wsA1_o, hk]
        rfl
      have q3 : (wsA1_o c cb ws n' w t ν j).2.2.vecs = [] := rfl
      rw [q1] at hfr1
      rw [q2, q3] at hr1
      have hr1' := res_nil hr1 34 1
      refine loop_after (i := 2) (by kernel_rfl) (fun d a w2 => ∃ (i : Nat) (so : Option Addr) (co : Nat), d = Rg.many q n' - i ∧ i ≤ Rg.many q n' ∧ Fr Tryd.f36.ntmps (wsK p) a ∧
        Res w0 (fun k => ∃ x ∈ [(⟨123, 1, .slice (some ⟨ws, 0, none⟩) n' n', n', xs.map u64V⟩ : Vec)], x.v.ownBlock = some k) ([(p, 90, sumV c t (Rg.k0 q n' + i) (Rg.tot (Rg.slots xs n' (Rg.k0 q n') i)) (decide (i = Rg.many q n')) (if i = Rg.many q n' then Rg.tot (Rg.slots xs n' (Rg.k0 q n') i) else 0) so i co)] ++ []) [] ([wordsV ws n' n' n' (xs.map u64V), u64sV so i co ((Rg.slots xs n' (Rg.k0 q n') i).map u64V)] ++ []) w2) (Rg.many q n') ⟨0, none, 0, rfl, Nat.zero_le _, hfr1, ?_⟩ ?_
      · have hm0 : ¬ 0 = Rg.many q n' := by omega
        simp only [hm0, decide_false, if_false, Int.add_zero, Int.natCast_zero]
        exact hr1'.perm (.refl _) (.swap ..)
      rintro d a2 w2 ⟨i, so, co, rfl, hi, hfr2, hr2⟩ Y hY _
      by_cases hlt : i < Rg.many q n'
      · have hne : ¬ i = Rg.many q n' := by omega
        simp only [hne, decide_false, if_false] at hr2
        have hm := Rg.tmod_eq (n := n') (show 0 ≤ Rg.k0 q n' + i by omega)
        have ha0 := Rg.at_nonneg (k := Rg.k0 q n' + i) hn0
        have ha1 := Rg.at_lt (k := Rg.k0 q n' + i) hn0
        have hnz : ¬ (n' : Int) = 0 := by omega
        obtain ⟨x, hxe⟩ : ∃ x, x = seeAt xs (Rg.at_ (Rg.k0 q n' + i) n') := ⟨_, rfl⟩
        have hsl : Rg.slot xs n' (Rg.k0 q n' + i) = Rg.held (Rg.k0 q n' + i) x := by rw [hxe]; rfl
        obtain ⟨s, hse⟩ : ∃ s, s = Rg.tot (Rg.slots xs n' (Rg.k0 q n') i) := ⟨_, rfl⟩
        obtain ⟨es, hes⟩ : ∃ es, es = Rg.slots xs n' (Rg.k0 q n') i := ⟨_, rfl⟩
        have htot : Rg.tot (Rg.slots xs n' (Rg.k0 q n') (i + 1)) = Rg.w64 (s + Rg.held (Rg.k0 q n' + i) x) := by rw [Rg.slots_succ, Rg.tot_snoc, hsl, hse]
        have hsn : Rg.slots xs n' (Rg.k0 q n') (i + 1) = es ++ [Rg.held (Rg.k0 q n' + i) x] := by rw [Rg.slots_succ, hsl, hes]
        have hw1 : IntKind.i64.wrap (Rg.k0 q n' + i + 1) = Rg.k0 q n' + ((i + 1 : Nat) : Int) := by rw [wrap_i64 (by omega) (by omega)]; omega
        rw [← hse, ← hes] at hr2
        by_cases hk : Rg.tick x = Rg.k0 q n' + i
        · have hh : Rg.held (Rg.k0 q n' + i) x = Rg.cnt x := by simp [Rg.held, hk]
          by_cases hlast : Rg.k0 q n' + i = q
          · have hl1 : i + 1 = Rg.many q n' := by omega
            have hlx : decide (i + 1 = Rg.many q n') = true := decide_eq_true hl1
            refine Res.segV (GF := []) (V := [wordsV ws n' n' n' (xs.map u64V), u64sV so i co (es.map u64V)]) (GV := []) hostD _ (wsR c cb ws n' w t xs p (Rg.k0 q n' + i) s so i co es) wsR3_n (wsR3_1 c cb ws n' w t xs p (Rg.k0 q n' + i) s so i co es) (wsR3_2 c cb ws n' w t xs p (Rg.k0 q n' + i) s so i co es) hr2 hl hro no_ros rfl ?_ (fun _ _ => rfl) (fun _ _ => rfl) hfr2 fun ν j a3 w3 hfr3 hr3 => ?_
            · simp only [wsR3_o, map_valU, all_u64, hq, hm, Rg.tick_def, Rg.cnt_def, ← hxe]
              have hb0 := ha0
              have hb1 := ha1
              have hkq := hk
              try rw [hlast] at hb0 hb1 hkq
              simp [hk, hkq, hlast, hnz, ha0, ha1, hb0, hb1, Cq.okq, addV_eq, u64sV, maxLen, hw0]
              try omega
            · obtain ⟨o, ho⟩ : ∃ o, o = wsR3_o c cb ws n' w t xs p (Rg.k0 q n' + i) s so i co es ν j := ⟨_, rfl⟩
              rw [← ho] at hfr3 hr3
              obtain ⟨g, cap, p1, p2, p3, p4⟩ : ∃ g cap, o.2.2.vecs = [wordsV ws n' n' n' (xs.map u64V), u64sV (some ⟨g, 0, none⟩) (i + 1) cap (es.map u64V ++ [u64V (Rg.held (Rg.k0 q n' + i) x)])] ∧ o.2.1 = wsK p ∧ o.2.2.news = [] ∧
                  o.2.2.blocks = [(p, 90, sumV c t (Rg.k0 q n' + ((i + 1 : Nat) : Int)) (Rg.w64 (s + Rg.held (Rg.k0 q n' + i) x)) (decide (i + 1 = Rg.many q n')) (if i + 1 = Rg.many q n' then Rg.w64 (s + Rg.held (Rg.k0 q n' + i) x) else 0) (some ⟨g, 0, none⟩) (i + 1) cap)] := by
                rw [ho, hh, hlx, if_pos hl1]
                simp only [wsR3_o, map_valU, hm, Rg.cnt_def, ← hxe, hw1, addV_eq]
                simp only [Rg.wrap_u]
                exact ⟨_, _, rfl, rfl, trivial, rfl⟩
              rw [p2] at hfr3
              rw [p1, p3, p4] at hr3
              refine hY _ a3 w3 (by omega) ⟨i + 1, some ⟨g, 0, none⟩, cap, rfl, hlt, hfr3, ?_⟩
              rw [htot, hsn, List.map_append]
              exact hr3
          · have hl1 : ¬ i + 1 = Rg.many q n' := by omega
            have hlx : decide (i + 1 = Rg.many q n') = false := decide_eq_false hl1
            refine Res.segV (GF := []) (V := [wordsV ws n' n' n' (xs.map u64V), u64sV so i co (es.map u64V)]) (GV := []) hostD _ (wsR c cb ws n' w t xs p (Rg.k0 q n' + i) s so i co es) wsR1_n (wsR1_1 c cb ws n' w t xs p (Rg.k0 q n' + i) s so i co es) (wsR1_2 c cb ws n' w t xs p (Rg.k0 q n' + i) s so i co es) hr2 hl hro no_ros rfl ?_ (fun _ _ => rfl) (fun _ _ => rfl) hfr2 fun ν j a3 w3 hfr3 hr3 => ?_
            · simp only [wsR1_o, map_valU, all_u64, hq, hm, Rg.tick_def, Rg.cnt_def, ← hxe]
              have hb0 := ha0
              have hb1 := ha1
              have hkq := hk
              try rw [hlast] at hb0 hb1 hkq
              simp [hk, hkq, hlast, hnz, ha0, ha1, hb0, hb1, Cq.okq, addV_eq, u64sV, maxLen, hw0]
              try omega
            · obtain ⟨o, ho⟩ : ∃ o, o = wsR1_o c cb ws n' w t xs p (Rg.k0 q n' + i) s so i co es ν j := ⟨_, rfl⟩
              rw [← ho] at hfr3 hr3
              obtain ⟨g, cap, p1, p2, p3, p4⟩ : ∃ g cap, o.2.2.vecs = [wordsV ws n' n' n' (xs.map u64V), u64sV (some ⟨g, 0, none⟩) (i + 1) cap (es.map u64V ++ [u64V (Rg.held (Rg.k0 q n' + i) x)])] ∧ o.2.1 = wsK p ∧ o.2.2.news = [] ∧
                  o.2.2.blocks = [(p, 90, sumV c t (Rg.k0 q n' + ((i + 1 : Nat) : Int)) (Rg.w64 (s + Rg.held (Rg.k0 q n' + i) x)) (decide (i + 1 = Rg.many q n')) (if i + 1 = Rg.many q n' then Rg.w64 (s + Rg.held (Rg.k0 q n' + i) x) else 0) (some ⟨g, 0, none⟩) (i + 1) cap)] := by
                rw [ho, hh, hlx, if_neg hl1]
                simp only [wsR1_o, map_valU, hm, Rg.cnt_def, ← hxe, hw1, addV_eq]
                simp only [Rg.wrap_u]
                exact ⟨_, _, rfl, rfl, trivial, rfl⟩
              rw [p2] at hfr3
              rw [p1, p3, p4] at hr3
              refine hY _ a3 w3 (by omega) ⟨i + 1, some ⟨g, 0, none⟩, cap, rfl, hlt, hfr3, ?_⟩
              rw [htot, hsn, List.map_append]
              exact hr3
        · have hh : Rg.held (Rg.k0 q n' + i) x = 0 := by simp [Rg.held, hk]
          by_cases hlast : Rg.k0 q n' + i = q
          · have hl1 : i + 1 = Rg.many q n' := by omega
            have hlx : decide (i + 1 = Rg.many q n') = true := decide_eq_true hl1
            refine Res.segV (GF := []) (V := [wordsV ws n' n' n' (xs.map u64V), u64sV so i co (es.map u64V)]) (GV := []) hostD _ (wsR c cb ws n' w t xs p (Rg.k0 q n' + i) s so i co es) wsR4_n (wsR4_1 c cb ws n' w t xs p (Rg.k0 q n' + i) s so i co es) (wsR4_2 c cb ws n' w t xs p (Rg.k0 q n' + i) s so i co es) hr2 hl hro no_ros rfl ?_ (fun _ _ => rfl) (fun _ _ => rfl) hfr2 fun ν j a3 w3 hfr3 hr3 => ?_
            · simp only [wsR4_o, map_valU, all_u64, hq, hm, Rg.tick_def, Rg.cnt_def, ← hxe]
              have hb0 := ha0
              have hb1 := ha1
              have hkq := hk
              try rw [hlast] at hb0 hb1 hkq
              simp [hk, hkq, hlast, hnz, ha0, ha1, hb0, hb1, Cq.okq, addV_eq, u64sV, maxLen, hw0]
              try omega
            · obtain ⟨o, ho⟩ : ∃ o, o = wsR4_o c cb ws n' w t xs p (Rg.k0 q n' + i) s so i co es ν j := ⟨_, rfl⟩
              rw [← ho] at hfr3 hr3
              obtain ⟨g, cap, p1, p2, p3, p4⟩ : ∃ g cap, o.2.2.vecs = [wordsV ws n' n' n' (xs.map u64V), u64sV (some ⟨g, 0, none⟩) (i + 1) cap (es.map u64V ++ [u64V (Rg.held (Rg.k0 q n' + i) x)])] ∧ o.2.1 = wsK p ∧ o.2.2.news = [] ∧
                  o.2.2.blocks = [(p, 90, sumV c t (Rg.k0 q n' + ((i + 1 : Nat) : Int)) (Rg.w64 (s + Rg.held (Rg.k0 q n' + i) x)) (decide (i + 1 = Rg.many q n')) (if i + 1 = Rg.many q n' then Rg.w64 (s + Rg.held (Rg.k0 q n' + i) x) else 0) (some ⟨g, 0, none⟩) (i + 1) cap)] := by
                rw [ho, hh, hlx, if_pos hl1]
                simp only [wsR4_o, map_valU, hm, Rg.cnt_def, ← hxe, hw1, addV_eq]
                simp only [Rg.wrap_u]
                exact ⟨_, _, rfl, rfl, trivial, rfl⟩
              rw [p2] at hfr3
              rw [p1, p3, p4] at hr3
              refine hY _ a3 w3 (by omega) ⟨i + 1, some ⟨g, 0, none⟩, cap, rfl, hlt, hfr3, ?_⟩
              rw [htot, hsn, List.map_append]
              exact hr3
          · have hl1 : ¬ i + 1 = Rg.many q n' := by omega
            have hlx : decide (i + 1 = Rg.many q n') = false := decide_eq_false hl1
            refine Res.segV (GF := []) (V := [wordsV ws n' n' n' (xs.map u64V), u64sV so i co (es.map u64V)]) (GV := []) hostD _ (wsR c cb ws n' w t xs p (Rg.k0 q n' + i) s so i co es) wsR2_n (wsR2_1 c cb ws n' w t xs p (Rg.k0 q n' + i) s so i co es) (wsR2_2 c cb ws n' w t xs p (Rg.k0 q n' + i) s so i co es) hr2 hl hro no_ros rfl ?_ (fun _ _ => rfl) (fun _ _ => rfl) hfr2 fun ν j a3 w3 hfr3 hr3 => ?_
            · simp only [wsR2_o, map_valU, all_u64, hq, hm, Rg.tick_def, Rg.cnt_def, ← hxe]
              have hb0 := ha0
              have hb1 := ha1
              have hkq := hk
              try rw [hlast] at hb0 hb1 hkq
              simp [hk, hkq, hlast, hnz, ha0, ha1, hb0, hb1, Cq.okq, addV_eq, u64sV, maxLen, hw0]
              try omega
            · obtain ⟨o, ho⟩ : ∃ o, o = wsR2_o c cb ws n' w t xs p (Rg.k0 q n' + i) s so i co es ν j := ⟨_, rfl⟩
              rw [← ho] at hfr3 hr3
              obtain ⟨g, cap, p1, p2, p3, p4⟩ : ∃ g cap, o.2.2.vecs = [wordsV ws n' n' n' (xs.map u64V), u64sV (some ⟨g, 0, none⟩) (i + 1) cap (es.map u64V ++ [u64V (Rg.held (Rg.k0 q n' + i) x)])] ∧ o.2.1 = wsK p ∧ o.2.2.news = [] ∧
                  o.2.2.blocks = [(p, 90, sumV c t (Rg.k0 q n' + ((i + 1 : Nat) : Int)) (Rg.w64 (s + Rg.held (Rg.k0 q n' + i) x)) (decide (i + 1 = Rg.many q n')) (if i + 1 = Rg.many q n' then Rg.w64 (s + Rg.held (Rg.k0 q n' + i) x) else 0) (some ⟨g, 0, none⟩) (i + 1) cap)] := by
                rw [ho, hh, hlx, if_neg hl1]
                simp only [wsR2_o, map_valU, hm, Rg.cnt_def, ← hxe, hw1, addV_eq]
                simp only [Rg.wrap_u]
                exact ⟨_, _, rfl, rfl, trivial, rfl⟩
              rw [p2] at hfr3
              rw [p1, p3, p4] at hr3
              refine hY _ a3 w3 (by omega) ⟨i + 1, some ⟨g, 0, none⟩, cap, rfl, hlt, hfr3, ?_⟩
              rw [htot, hsn, List.map_append]
              exact hr3
      · obtain rfl : i = Rg.many q n' := by omega
        simp only [decide_true, if_true] at hr2
        have hso : ∃ g, so = some ⟨g, 0, none⟩ := (res_len hr2 (e := 34) (s := 1) (n := Rg.many q n') (c := co) (so := so) (xs := (Rg.slots xs n' (Rg.k0 q n') (Rg.many q n')).map u64V) (List.mem_cons_of_mem _ (List.mem_cons_self ..))).2.2 (by omega)
        obtain ⟨g, rfl⟩ := hso
        obtain ⟨S, hS⟩ : ∃ S, S = Rg.tot (Rg.slots xs n' (Rg.k0 q n') (Rg.many q n')) := ⟨_, rfl⟩
        rw [← hS] at hr2
        refine Res.segV (GF := []) (V := []) (GV := [wordsV ws n' n' n' (xs.map u64V), u64sV (some ⟨g, 0, none⟩) (Rg.many q n') co ((Rg.slots xs n' (Rg.k0 q n') (Rg.many q n')).map u64V)]) hostD _ (wsX c t p (Rg.k0 q n' + Rg.many q n') S (some ⟨g, 0, none⟩) (Rg.many q n') co) wsX1_n (wsX1_1 c t p (Rg.k0 q n' + Rg.many q n') S (some ⟨g, 0, none⟩) (Rg.many q n') co) (wsX1_2 c t p (Rg.k0 q n' + Rg.many q n') S (some ⟨g, 0, none⟩) (Rg.many q n') co) (by rw [List.append_nil] at hr2; exact hr2) (Looks.nil w0) (fun _ h => by cases h) no_ros rfl (by simp [wsX1_o]) (fun _ _ => rfl) (fun _ _ => rfl) hfr2 fun ν j a3 w3 hfr3 hr3 => ?_
        refine ⟨[p, g, co], rfl, rfl, ?_⟩
        have hk3 : Rg.k0 q n' + (Rg.many q n' : Int) = q + 1 := by omega
        rw [hk3] at hr3
        refine Res.metR (z := wholeZ c n' w t xs p g co) (ls := [p, g, co]) (GV := []) (GF := []) (L := []) ?_ rfl (by simp [wholeZ])
        simp only [wholeZ, ← hqe, ← hS]
        exact hr3
  · exact good_fail
end Go.Proofs.YthmhdiipejgkiaaDoor
