/- Registers: All; the document's Regs as contracts. -/
import Derived.Test.YtmihblocomnfjaaDoorSnHB
set_option linter.unusedSimpArgs false
set_option linter.unusedVariables false
namespace Go.Proofs.YtmihblocomnfjaaDoor
open Go Sy Close
set_option maxRecDepth 100000
open Sn (regR SD SP nxt did wd num vl)
theorem isK_u32 (xs : List Int) (i : Nat) : isK 10 ((xs.map u32V).getD i noV) = decide (i < xs.length) := by
  rw [List.getD_eq_getElem?_getD, List.getElem?_map]
  by_cases h : i < xs.length
  · rw [List.getElem?_eq_getElem h]; simp [h, u32V, isK]
  · rw [List.getElem?_eq_none (by omega)]; simp [h, isK_noV]
theorem valI_u32 (xs : List Int) (i : Nat) : valI ((xs.map u32V).getD i noV) = xs.getD i 0 := by
  rw [List.getD_eq_getElem?_getD, List.getD_eq_getElem?_getD, List.getElem?_map]
  cases xs[i]? <;> rfl
theorem map_valU32 (l : List Int) : (l.map u32V).map valU32 = l := by
  rw [List.map_map]
  exact List.map_id'' (fun _ => rfl) l
theorem all_u32 (l : List Int) : (l.map u32V).all isU32 = true := by simp [isU32, u32V]
theorem map_u32V {l : List Value} (h : l.all isU32 = true) : (l.map valU32).map u32V = l := by
  rw [List.map_map]
  refine (List.map_congr_left fun x hx => ?_).trans (List.map_id l)
  have := List.all_eq_true.1 h x hx
  revert this
  unfold isU32
  split
  · intro _; rfl
  · intro h; cases h
def numsR (x : Int) : List Int := [num x, vl x]
def nums (xs : List Int) : List Int := xs.flatMap numsR
theorem regs_nums (xs : List Int) : xs.flatMap regR = (nums xs).map u32V := by
  unfold nums
  rw [List.map_flatMap]
  rfl
theorem regs_all (xs : List Int) : (xs.flatMap regR).all isU32 = true := by rw [regs_nums, all_u32]
theorem regs_val (xs : List Int) : (xs.flatMap regR).map valU32 = nums xs := by rw [regs_nums, map_valU32]
theorem nums_len (xs : List Int) : (nums xs).length = xs.length * 2 := by
  unfold nums
  induction xs with
  | nil => rfl
  | cons x xs ih => rw [List.flatMap_cons, List.length_append, ih]; simp [numsR]; omega
def loadRegs (v : Value) (k : Nat → List Int → CP) : CP := .row v 63 2 fun n xs => needs (xs.all isU32) (k n (xs.map valU32))
theorem good_regs {P : Program} {f : FuncId} {args : Array Value} {w : World} {l : List (Nat × Nat × Value)} {R : List Vec} {v : Value} {k : Nat → List Int → CP} (h : ∀ n (xs : List Int), ConGoal P f args w l (⟨63, 2, v, n, xs.map u32V⟩ :: R) (k n xs)) : ConGoal P f args w l R (loadRegs v k) :=
  Sy.good_row fun n xs => good_needs fun hu => by
    have := h n (xs.map valU32)
    rw [map_u32V hu] at this
    exact this
theorem owns2 {w : World} {e n n' g c : Nat} {xs : List Value} (h : w.ownsRow 0 e 2 (.slice (some ⟨g, 0, none⟩) n c) n' xs) : n' = n ∧ xs.length = n * 2 := by
  rcases h.2 with ⟨h1, _⟩ | ⟨g', cap, cur, h1, _⟩
  · cases h1
  · simp only [Value.slice.injEq] at h1
    have := h.1
    exact ⟨h1.2.1.symm, by rw [this, h1.2.1]⟩
def rqP (args : Array Value) : CP := match args.toList with
  | [.slice (some ⟨ab, 0, none⟩) an ac, .slice (some ⟨bb, 0, none⟩) bn bc] => needs (Nat.ble an 65536 && Nat.ble bn 65536) <| loadRegs (.slice (some ⟨ab, 0, none⟩) an ac) fun _ xs => loadRegs (.slice (some ⟨bb, 0, none⟩) bn bc) fun _ ys => .done 0 fun _ => { res := .bool (decide (xs = ys)) }
  | _ => .fail
theorem rq_ok : (⟨19, rqP⟩ : Contract).Ok Tryd.prog := con_start fun args w0 => by
  unfold rqP
  split
  · rename_i ab an ac bb bn bc hargs
    obtain rfl := args_of hargs
    refine good_needs fun hn => good_regs fun n' xs => good_regs fun m' ys => good_doneR fun hl hr => ?_
    simp only [Bool.and_eq_true, Nat.ble_eq] at hn
    obtain ⟨hn0, hn1⟩ := hn
    have hra : w0.ownsRow 0 63 2 (.slice (some ⟨ab, 0, none⟩) an ac) n' (xs.map u32V) := hr.row _ (List.mem_cons_of_mem _ (List.mem_singleton.2 rfl))
    have hrb : w0.ownsRow 0 63 2 (.slice (some ⟨bb, 0, none⟩) bn bc) m' (ys.map u32V) := hr.row _ (List.mem_cons_self ..)
    obtain ⟨e1, e2⟩ := owns2 hra
    obtain ⟨e3, e4⟩ := owns2 hrb
    subst e1 e3
    rw [List.length_map] at e2 e4
    refine calls_after (X := fun _ _ _ => False) (fn := Tryd.f19) Tryd.func19 rfl (show 2 ≤ Tryd.f19.ntmps by decide) fun a hfr => ?_
    have fin : ∀ {w1 : World} (g : Bool), Res w0 (fun k => ∃ x ∈ [nregs bb m' bc ys, nregs ab n' ac xs], x.v.ownBlock = some k) ([] ++ ([] ++ [])) [] ([] ++ [nregs bb m' bc ys, nregs ab n' ac xs]) w1 → g = decide (xs = ys) → ∃ ls : List Nat, ls.length = 0 ∧ Ending.returned (.bool g) = .returned (({ res := .bool (decide (xs = ys)) } : Sy.Ends)).res ∧ (({ res := .bool (decide (xs = ys)) } : Sy.Ends)).Met ls [nregs bb m' bc ys, nregs ab n' ac xs] w0 w1 := fun {w1} g hs e =>
      ⟨[], rfl, by rw [e], Res.metR (z := ({ res := .bool (decide (xs = ys)) } : Sy.Ends)) (ls := []) (GV := []) (GF := []) (L := []) hs rfl (by simp)⟩
    by_cases hlen : n' = m'
    · subst hlen
      refine Res.segV (F := []) (GF := []) (V := []) hostS _ (rqA ab n' ac bb n' bc) rqA1_n (rqA1_1 ab n' ac bb n' bc) (rqA1_2 ab n' ac bb n' bc) (Res.rows hr) (Looks.nil w0) (fun _ h => by cases h) no_ros rfl (by simp [rqA1_o]) (fun _ _ => rfl) (fun _ _ => rfl) hfr fun ν j a1 w1 hfr1 hr1 => ?_
      refine loop_after (i := 4) (by kernel_rfl) (fun m a w => ∃ i, m = n' - i ∧ i ≤ n' ∧ xs.take (i * 2) = ys.take (i * 2) ∧ Fr Tryd.f19.ntmps (rqK ab n' ac bb n' bc i) a ∧ Res w0 (fun k => ∃ x ∈ [nregs bb n' bc ys, nregs ab n' ac xs], x.v.ownBlock = some k) ([] ++ []) [] ([nregs ab n' ac xs, nregs bb n' bc ys] ++ []) w) n' ⟨0, rfl, Nat.zero_le _, rfl, hfr1, (show Res w0 _ ([] ++ []) [] [nregs bb n' bc ys, nregs ab n' ac xs] w1 from hr1).perm (.refl _) (.swap ..)⟩ ?_
      rintro m a2 w2 ⟨i, rfl, hi, htk, hfr2, hr2⟩ Y hY _
      by_cases hlt : i < n'
      · have ge : ∀ (l : List Int) k, k < l.length → l[k]? = some (l.getD k 0) := fun l k hk => by rw [List.getD_eq_getElem?_getD, List.getElem?_eq_getElem hk]; rfl
        have hx0 : i * 2 < xs.length := by omega
        have hx1 : i * 2 + 1 < xs.length := by omega
        have hy0 : i * 2 < ys.length := by omega
        have hy1 : i * 2 + 1 < ys.length := by omega
        have ew : IntKind.i64.wrap ((i : Int) + 1) = ((i + 1 : Nat) : Int) := by rw [wrap_i64 (by omega) (by omega)]; simp
        by_cases hxy : xs.getD (i * 2) 0 = ys.getD (i * 2) 0 ∧ xs.getD (i * 2 + 1) 0 = ys.getD (i * 2 + 1) 0
        · refine Res.segV (V := [nregs ab n' ac xs, nregs bb n' bc ys]) (GV := []) (GF := []) hostS _ (rqR ab n' ac bb n' bc xs ys i) rqR1_n (rqR1_1 ab n' ac bb n' bc xs ys i) (rqR1_2 ab n' ac bb n' bc xs ys i) hr2 (Looks.nil w0) (fun _ h => by cases h) no_ros rfl (by
            intro ν j
            simp only [rqR1_o, isK_u32, valI_u32, isK_u64, valI_u64, set_u64, map_valU, all_u64, isK_i64, valI_i64, set_i64, isK_bool, valB_bool, set_bool, sadd_eq, smul_eq, Nat.mul_one, Nat.zero_add, Nat.add_zero, List.length_map, Int.toNat_natCast]
            simp only [hxy.1, hxy.2]
            simp [hlt, hx0, hx1, hy0, hy1]) (fun _ _ => rfl) (fun _ _ => rfl) hfr2 fun ν j a3 w3 hfr3 hr3 => ?_
          simp only [rqR1_o, ew] at hfr3
          refine hY _ a3 w3 (show n' - (i + 1) < n' - i by omega) ⟨i + 1, rfl, hlt, ?_, hfr3, hr3⟩
          rw [show (i + 1) * 2 = i * 2 + 1 + 1 by omega, List.take_add_one, List.take_add_one, List.take_add_one, List.take_add_one, htk, ge xs _ hx0, ge ys _ hy0, ge xs _ hx1, ge ys _ hy1, hxy.1, hxy.2]
        · refine Res.segV (V := [nregs ab n' ac xs, nregs bb n' bc ys]) (GV := []) (GF := []) hostS _ (rqR ab n' ac bb n' bc xs ys i) rqR2_n (rqR2_1 ab n' ac bb n' bc xs ys i) (rqR2_2 ab n' ac bb n' bc xs ys i) hr2 (Looks.nil w0) (fun _ h => by cases h) no_ros rfl (by
            intro ν j
            simp only [rqR2_o, isK_u32, valI_u32, isK_u64, valI_u64, set_u64, map_valU, all_u64, isK_i64, valI_i64, set_i64, isK_bool, valB_bool, set_bool, sadd_eq, smul_eq, Nat.mul_one, Nat.zero_add, Nat.add_zero, List.length_map, Int.toNat_natCast]
            have hb : (!(xs.getD (i * 2) 0 == ys.getD (i * 2) 0 && (xs.getD (i * 2 + 1) 0 == ys.getD (i * 2 + 1) 0 && true))) = true := by
              simp only [Bool.and_true, Bool.not_eq_true', Bool.and_eq_false_iff, beq_eq_false_iff_ne, ne_eq]
              by_cases h : xs.getD (i * 2) 0 = ys.getD (i * 2) 0
              · exact .inr fun h2 => hxy ⟨h, h2⟩
              · exact .inl h
            simp only [hb]
            simp [hlt, hx0, hx1, hy0, hy1]) (fun _ _ => rfl) (fun _ _ => rfl) hfr2 fun ν j a3 w3 hfr3 hr3 => ?_
          refine fin false (hr3.perm (.refl _) (.swap ..)) (decide_eq_false fun e => hxy ?_).symm
          rw [e]
          exact ⟨rfl, rfl⟩
      · have e : i = n' := by omega
        subst e
        refine Res.segV (V := [nregs ab i ac xs, nregs bb i bc ys]) (GV := []) (GF := []) hostS _ (rqR ab i ac bb i bc xs ys i) rqR3_n (rqR3_1 ab i ac bb i bc xs ys i) (rqR3_2 ab i ac bb i bc xs ys i) hr2 (Looks.nil w0) (fun _ h => by cases h) no_ros rfl (by simp [rqR3_o]) (fun _ _ => rfl) (fun _ _ => rfl) hfr2 fun ν j a3 w3 hfr3 hr3 => ?_
        refine fin true (hr3.perm (.refl _) (.swap ..)) (decide_eq_true ?_).symm
        rw [List.take_of_length_le (by omega), List.take_of_length_le (by omega)] at htk
        exact htk
    · refine Res.segV (F := []) (GF := []) (V := []) hostS _ (rqA ab n' ac bb m' bc) rqA2_n (rqA2_1 ab n' ac bb m' bc) (rqA2_2 ab n' ac bb m' bc) (Res.rows hr) (Looks.nil w0) (fun _ h => by cases h) no_ros rfl (by simp [rqA2_o]; omega) (fun _ _ => rfl) (fun _ _ => rfl) hfr fun ν j a1 w1 hfr1 hr1 => ?_
      refine fin false hr1 (decide_eq_false fun e => hlen ?_).symm
      rw [e] at e2
      omega
  · exact good_fail
def sallP (args : Array Value) : CP := match args.toList with
  | [.pointer (some ⟨c, 0, none⟩)] => loadPtr ⟨c, 0, none⟩ fun cb => loadSl ⟨cb, 0, none⟩ fun ws n cap => loadRow (.slice (some ⟨ws, 0, none⟩) n cap) fun _ xs => needs (Nat.blt 0 n && Nat.ble n 65536 && Nat.beq cap n) <| .done 2 fun l => match l with
    | [g, c] => regZ n (xs.flatMap regR) g c
    | _ => { res := nilP }
  | _ => .fail
theorem sall_ok : (⟨20, sallP⟩ : Contract).Ok Tryd.prog := con_start fun args w0 => by
  unfold sallP
  split
  · rename_i c hargs
    obtain rfl := args_of hargs
    refine good_ptr fun cb => good_sl fun ws n cap => good_words fun n' xs => good_needs fun hn => good_doneR fun hl hr => ?_
    simp only [Bool.and_eq_true, Nat.blt_eq, Nat.ble_eq, Nat.beq_eq] at hn
    obtain ⟨⟨hn0, hn1⟩, e0⟩ := hn
    subst cap
    have hrow : w0.ownsRow 0 109 1 (.slice (some ⟨ws, 0, none⟩) n n) n' (xs.map u64V) := hr.row _ (List.mem_singleton.2 rfl)
    obtain ⟨e1, e2, _⟩ := owns_at hrow
    subst e1
    have hro : ∀ x ∈ [(cb, 0, Value.slice (some ⟨ws, 0, none⟩) n' n'), (c, 0, ptrV cb)], ¬ ∃ y ∈ [(⟨109, 1, .slice (some ⟨ws, 0, none⟩) n' n', n', xs.map u64V⟩ : Vec)], y.v.ownBlock = some x.1 := fun x hx ⟨y, hy, e⟩ => hr.off y hy _ e x hx rfl
    refine calls_after (X := fun _ _ _ => False) (fn := Tryd.f20) Tryd.func20 rfl (show 1 ≤ Tryd.f20.ntmps by decide) fun a hfr => ?_
    refine Res.segV (F := []) (GF := []) (V := [wordsV ws n' n' n' (xs.map u64V)]) (GV := []) hostS _ (salA c cb ws n' xs) salA1_n (salA1_1 c cb ws n' xs) (salA1_2 c cb ws n' xs) (Res.rows hr) hl hro no_ros rfl ?_ (fun _ _ => rfl) (fun _ _ => rfl) hfr fun ν j a1 w1 hfr1 hr1 => ?_
    · simp only [salA1_o, all_u64, map_valU]
      simp [Nat.blt_eq, Nat.ble_eq, hn0, hn1]
    · obtain ⟨g, cap, V1, p1, p2, p3, p4⟩ : ∃ g cap V1, (salA1_o c cb ws n' xs ν j).1 = .ret (.slice (some ⟨g, 0, none⟩) n' cap) ∧ (salA1_o c cb ws n' xs ν j).2.2.vecs = [wordsV ws n' n' n' (xs.map u64V), V1, regsV (some ⟨g, 0, none⟩) n' cap (xs.flatMap regR)] ∧ (salA1_o c cb ws n' xs ν j).2.2.news = [] ∧ (salA1_o c cb ws n' xs ν j).2.2.blocks = [] := by
        simp only [salA1_o, map_valU]
        exact ⟨_, _, _, rfl, rfl, trivial, trivial⟩
      rw [p2, p3, p4] at hr1
      rw [p1]
      refine ⟨[g, cap], rfl, rfl, Res.metR (z := regZ n' (xs.flatMap regR) g cap) (ls := [g, cap]) (GV := [V1]) (GF := []) (L := []) (hr1.perm (.refl _) (.cons _ (.swap ..))) rfl (by simp [regZ])⟩
  · exact good_fail
def consT : List Contract := ⟨19, rqP⟩ :: ⟨20, sallP⟩ :: consS
theorem consT_ok : ∀ c ∈ consT, c.Ok Tryd.prog := con_ok rq_ok (con_ok sall_ok consS_ok)
noncomputable def hostT : Host Tryd.prog := hostOf _ consT_ok
end Go.Proofs.YtmihblocomnfjaaDoor
