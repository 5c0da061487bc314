/- Sharded counters: New, Start, Step as contracts. -/
import Derived.Test.YtfdgggikjnoghaaDoorShB
namespace Go.Proofs.YtfdgggikjnoghaaDoor
open Go Sy
set_option maxRecDepth 100000
def errV (n : Int) : Value := .int .i64 n
def nilP : Value := .pointer none
def ptrV (b : Nat) : Value := .pointer (some ⟨b, 0, none⟩)
def wordsV (ws n cap n' : Nat) (xs : List Value) : Vec := ⟨91, 1, .slice (some ⟨ws, 0, none⟩) n cap, n', xs⟩
def newP (args : Array Value) : CP := match args.toList with
  | [.int .i64 n] => .test (decide (1 ≤ n) && decide (n ≤ 64)) fun g => match g with
    | true => .done 3 fun l => match l with
      | [c, cb, ws] => { res := .tuple #[ptrV c, errV 0], news := [(77, [ptrV cb]), (82, [.slice (some ⟨ws, 0, none⟩) n.toNat n.toNat])], vecs := [wordsV ws n.toNat n.toNat n.toNat ((List.replicate n.toNat (0 : Int)).map u64V)] }
      | _ => { res := nilP }
    | false => .done 0 fun _ => { res := .tuple #[nilP, errV 2] }
  | _ => .fail
theorem made_u64 (n : Nat) : (madeCells (Value.cells (.agg #[.int .u64 0])) (n * 1)).toList = (List.replicate n (0 : Int)).map u64V := by
  have e : Value.cells (.agg #[.int .u64 0]) = #[.int .u64 0] := by kernel_rfl
  rw [e, toList_madeCells_one, Nat.mul_one, List.map_replicate]
  rfl
theorem new_ok : (⟨17, newP⟩ : Contract).Ok Tryd.prog := con_start fun args w => by
  unfold newP
  split
  · rename_i n hargs
    obtain rfl := args_of hargs
    refine good_test ?_
    by_cases h1 : 1 ≤ n
    · by_cases h2 : n ≤ 64
      · have e : (decide (1 ≤ n) && decide (n ≤ 64)) = true := by simp [h1, h2]
        rw [e]
        exact good_done fun hl => good_walk host new1_n (c := newC n) (new1_1 n) (new1_2 n) (by simp [new1_o, maxLen]; omega) rfl hl fun ν => ⟨(new1_o n ν).2.news.map Prod.fst ++ (new1_o n ν).2.vecs.filterMap (fun x => x.v.ownBlock), rfl, rfl, rfl, .same _, rfl, by simp only [new1_o]; rw [← made_u64]; rfl⟩
      · have e : (decide (1 ≤ n) && decide (n ≤ 64)) = false := by simp [h2]
        rw [e]
        exact good_done fun hl => good_walk host new3_n (c := newC n) (new3_1 n) (new3_2 n) (by simp [new3_o, h1, h2] <;> omega) rfl hl fun ν => ⟨[], rfl, rfl, rfl, .same _, rfl, rfl⟩
    · have e : (decide (1 ≤ n) && decide (n ≤ 64)) = false := by simp [h1]
      rw [e]
      exact good_done fun hl => good_walk host new2_n (c := newC n) (new2_1 n) (new2_2 n) (by simp [new2_o, h1] <;> omega) rfl hl fun ν => ⟨[], rfl, rfl, rfl, .same _, rfl, rfl⟩
  · exact good_fail
def pendV (c : Nat) (k w b : Int) (kb bb : Nat) (cell last sum : Int) (over : Bool) : List Value := [ptrV c, .int .u8 k, .int .i64 w, .int .u64 b, .func (.func 37) #[] #[ptrV kb, ptrV bb], .int .i64 cell, .int .i64 last, .int .u64 sum, .bool over]
def startP (args : Array Value) : CP := match args.toList with
  | [.pointer (some ⟨c, 0, none⟩), .agg ⟨[.int .u8 k, .int .i64 w, .int .u64 b]⟩] => loadPtr ⟨c, 0, none⟩ fun cb => loadSl ⟨cb, 0, none⟩ fun _ n _ => needs (Nat.blt 0 n) <| .test (Sk.right k w b) fun g => match g with
    | true => .done 3 fun l => match l with
      | [bb, kb, p] => { res := .tuple #[ptrV p, errV 0], news := [(32, [.int .u64 (Sk.abOf k b)]), (31, [.int .u8 (Sk.akOf k)]), (71, pendV c k w b kb bb (Sk.cellOf n k w) (Sk.lastOf n k w) 0 false)] }
      | _ => { res := nilP }
    | false => .done 0 fun _ => { res := .tuple #[nilP, errV 2] }
  | _ => .fail
theorem right_kind {k w b : Int} (h : Sk.right k w b = true) : k = 1 ∨ k = 2 ∨ k = 3 ∨ k = 4 := by
  by_cases h1 : k = 1
  · exact .inl h1
  · by_cases h2 : k = 2
    · exact .inr (.inl h2)
    · by_cases h3 : k = 3
      · exact .inr (.inr (.inl h3))
      · by_cases h4 : k = 4
        · exact .inr (.inr (.inr h4))
        · simp [Sk.right, Sk.isOne, Sk.isAll, h1, h2, h3, h4] at h
theorem start_ok : (⟨19, startP⟩ : Contract).Ok Tryd.prog := con_start fun args w => by
  unfold startP
  split
  · rename_i c k a b hargs
    obtain rfl := args_of hargs
    refine good_ptr fun cb => good_sl fun ws n cap => good_needs fun hn => good_test ?_
    have hn' : 0 < n := by simpa [Nat.blt_eq] using hn
    cases hr : Sk.right k a b
    · exact good_done fun hl => good_walk host1 start5_n (c := startC c cb ws n cap k a b) (start5_1 c cb ws n cap k a b) (start5_2 c cb ws n cap k a b) (by simp [start5_o, hr]) rfl hl fun ν => ⟨[], rfl, rfl, rfl, .same _, rfl, rfl⟩
    · rcases right_kind hr with rfl | rfl | rfl | rfl
      · exact good_done fun hl => good_walk host1 start1_n (c := startC c cb ws n cap 1 a b) (start1_1 c cb ws n cap 1 a b) (start1_2 c cb ws n cap 1 a b) (by simp [start1_o, hr] <;> omega) rfl hl fun ν => ⟨(start1_o c cb ws n cap 1 a b ν).2.news.map Prod.fst, rfl, rfl, rfl, .same _, rfl, rfl⟩
      · exact good_done fun hl => good_walk host1 start2_n (c := startC c cb ws n cap 2 a b) (start2_1 c cb ws n cap 2 a b) (start2_2 c cb ws n cap 2 a b) (by simp [start2_o, hr] <;> omega) rfl hl fun ν => ⟨(start2_o c cb ws n cap 2 a b ν).2.news.map Prod.fst, rfl, rfl, rfl, .same _, rfl, rfl⟩
      · exact good_done fun hl => good_walk host1 start3_n (c := startC c cb ws n cap 3 a b) (start3_1 c cb ws n cap 3 a b) (start3_2 c cb ws n cap 3 a b) (by simp [start3_o, hr] <;> omega) rfl hl fun ν => ⟨(start3_o c cb ws n cap 3 a b ν).2.news.map Prod.fst, rfl, rfl, rfl, .same _, rfl, rfl⟩
      · exact good_done fun hl => good_walk host1 start4_n (c := startC c cb ws n cap 4 a b) (start4_1 c cb ws n cap 4 a b) (start4_2 c cb ws n cap 4 a b) (by simp [start4_o, hr] <;> omega) rfl hl fun ν => ⟨(start4_o c cb ws n cap 4 a b ν).2.news.map Prod.fst, rfl, rfl, rfl, .same _, rfl, rfl⟩
  · exact good_fail
/-! ### Step -/
def stepQ (over : Bool) (k : CP) : CP := match over with
  | true => .done 0 fun _ => { res := .tuple #[didV 0 0 0 0 false, .bool true] }
  | false => k
def loadNext (a : Addr) (k : Nat → Nat → CP) : CP := .load a fun v => match v with
  | .func (.func f) ⟨[]⟩ ⟨[.pointer (some ⟨kb, 0, none⟩), .pointer (some ⟨bb, 0, none⟩)]⟩ => (match Nat.beq f 37 with
    | true => k kb bb
    | false => .fail)
  | _ => .fail
theorem good_next {P : Program} {f : FuncId} {args : Array Value} {w : World} {l : List (Nat × Nat × Value)} {b o : Nat} {R : List Vec} {k : Nat → Nat → CP} (h : ∀ kb bb, ConGoal P f args w ((b, o, .func (.func 37) #[] #[.pointer (some ⟨kb, 0, none⟩), .pointer (some ⟨bb, 0, none⟩)]) :: l) R (k kb bb)) : ConGoal P f args w l R (loadNext ⟨b, o, none⟩ k) := good_load fun v => by
  split
  · split
    · rename_i hb
      have := Nat.eq_of_beq_eq_true hb
      subst this
      exact h _ _
    · exact good_fail
  · exact good_fail
def stepP (args : Array Value) : CP := match args.toList with
  | [.pointer (some ⟨p, 0, none⟩)] => loadsB 0 usesL <| loadBool ⟨p, 8, none⟩ fun over => .test over fun g => stepQ g <| loadPtr ⟨p, 0, none⟩ fun c => loadNext ⟨p, 4, none⟩ fun kb bb => loadI64 ⟨p, 5, none⟩ fun cell => loadI64 ⟨p, 6, none⟩ fun last => loadU64 ⟨p, 7, none⟩ fun sum =>
      loadU8 ⟨kb, 0, none⟩ fun ak => loadU64 ⟨bb, 0, none⟩ fun ab => loadPtr ⟨c, 0, none⟩ fun cb => loadSl ⟨cb, 0, none⟩ fun ws n cap => loadRow (.slice (some ⟨ws, 0, none⟩) n cap) fun _ xs =>
      needs (decide (0 ≤ cell) && decide (cell < n) && Sk.okAct ak ab) <| .done 0 fun _ =>
        { res := .tuple #[didV ak cell (Sk.sawOf ak ab (seeAt xs cell)) (Sk.putOf ak ab (seeAt xs cell)) true, .bool (decide (IntKind.i64.wrap (cell + 1) > last))]
          st := [(p, 7, .int .u64 (Sk.sumOf ak sum (Sk.sawOf ak ab (seeAt xs cell)) (Sk.putOf ak ab (seeAt xs cell)))), (p, 5, .int .i64 (IntKind.i64.wrap (cell + 1))), (p, 8, .bool (decide (IntKind.i64.wrap (cell + 1) > last)))]
          sets := [(0, (putAt xs cell (Sk.putOf ak ab (seeAt xs cell))).map u64V)] }
  | _ => .fail
theorem put_see {xs : List Value} {n : Nat} {cell : Int} (hu : xs.all isU64 = true) (hn : xs.length = n) (h0 : 0 ≤ cell) (h1 : cell < n) : (putAt (xs.map valU) cell (seeAt (xs.map valU) cell)).map u64V = xs := by
  have : putAt (xs.map valU) cell (seeAt (xs.map valU) cell) = xs.map valU := by
    unfold putAt seeAt
    have hlt : cell.toNat < (xs.map valU).length := by simp; omega
    rw [List.getD_eq_getElem?_getD, List.getElem?_eq_getElem hlt, Option.getD_some, List.set_getElem_self]
  rw [this, map_u64V hu]
theorem step_ok : (⟨13, stepP⟩ : Contract).Ok Tryd.prog := con_start fun args w => by
  unfold stepP
  split
  · rename_i p hargs
    obtain rfl := args_of hargs
    refine good_bools (good_bool fun over => good_test ?_)
    cases over with
    | true => exact good_done fun hl => good_walk host1 stepO_n (c := stepOC p) (stepO_1 p) (stepO_2 p) (by simp [stepO_o]) rfl hl fun ν => ⟨[], rfl, rfl, rfl, .same _, rfl, rfl⟩
    | false =>
      refine good_ptr fun c => good_next fun kb bb => good_i64 fun cell => good_i64 fun last => good_u64 fun sum => good_u8 fun ak => good_u64 fun ab => good_ptr fun cb => good_sl fun ws n cap => Sy.good_row fun n' xs => good_needs fun hu => good_needs fun hn => good_doneR fun hl hr => ?_
      simp only [Bool.and_eq_true, decide_eq_true_eq] at hn
      obtain ⟨⟨h1, h2⟩, h3⟩ := hn
      have h4 : ak = 3 ∨ ak = 4 ∨ (ak = 1 ∧ ab = 0) := by
        simp only [Sk.okAct, Bool.or_eq_true, Bool.and_eq_true, decide_eq_true_eq] at h3
        omega
      have hrow : w.ownsRow 0 91 1 (.slice (some ⟨ws, 0, none⟩) n cap) n' xs := hr.row _ (List.mem_singleton.2 rfl)
      obtain ⟨e1, e2, _⟩ := owns_at hrow
      rcases h4 with rfl | rfl | ⟨rfl, rfl⟩
      · exact good_walkR host1 step3_n (c := step3C p kb bb c cb ws n cap ab cell last sum n' xs) (step3_1 p kb bb c cb ws n cap ab cell last sum n' xs) (step3_2 p kb bb c cb ws n cap ab cell last sum n' xs) (by simp [step3_o, hu, h1, h2]) rfl hl hr fun ν => ⟨[], rfl, rfl, rfl, .keep (.keep (.keep (.keep (.set (.keep (.set (.keep (.keep (.set (.same _)))))))))), rfl, rfl⟩
      · exact good_walkR host1 step4_n (c := step4C p kb bb c cb ws n cap ab cell last sum n' xs) (step4_1 p kb bb c cb ws n cap ab cell last sum n' xs) (step4_2 p kb bb c cb ws n cap ab cell last sum n' xs) (by simp [step4_o, hu, h1, h2]) rfl hl hr fun ν => ⟨[], rfl, rfl, rfl, .keep (.keep (.keep (.keep (.set (.keep (.set (.keep (.keep (.set (.same _)))))))))), rfl, rfl⟩
      · exact good_walkR host1 step1_n (c := step1C p kb bb c cb ws n cap cell last sum n' xs) (step1_1 p kb bb c cb ws n cap cell last sum n' xs) (step1_2 p kb bb c cb ws n cap cell last sum n' xs) (by simp [step1_o, hu, h1, h2]) rfl hl hr fun ν => ⟨[], rfl, rfl, rfl, .keep (.keep (.keep (.keep (.set (.keep (.set (.keep (.keep (.set (.same _)))))))))), rfl, by
          have := put_see hu e2 h1 h2
          simp only [Sk.putOf, step1_o, rowsNow, rowNow, List.append_nil]
          simp [this]⟩
  · exact good_fail
end Go.Proofs.YtfdgggikjnoghaaDoor
