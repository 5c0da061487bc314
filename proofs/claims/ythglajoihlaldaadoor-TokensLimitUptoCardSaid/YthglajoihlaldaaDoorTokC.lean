/- Token buckets: the contracts of fits, right, Step, Done, Answer, Word. -/
import Derived.Test.YthglajoihlaldaaDoorTokB
namespace Go.Proofs.YthglajoihlaldaaDoor
open Go Sy
set_option maxRecDepth 100000
def errV (n : Int) : Value := .int .i64 n
def fitsP (args : Array Value) : CP := match args.toList with
  | [.int .i64 e, .int .i64 u] => .done 0 fun _ => { res := .bool (Tk.fits e u) }
  | _ => .fail
theorem fits_ok : (⟨24, fitsP⟩ : Contract).Ok Tryd.prog := con_start fun args w => by
  unfold fitsP
  split
  · rename_i e u hargs
    obtain rfl := args_of hargs
    refine good_done fun hl => ?_
    by_cases h1 : 1 ≤ e
    · by_cases h2 : e ≤ 1099511627776
      · by_cases h3 : 1 ≤ u
        · exact good_walk host fits4_n (c := fitsC e u) (fits4_1 e u) (fits4_2 e u) (by simp [fits4_o, h1, h2, h3]) rfl hl fun ν => ⟨[], rfl, rfl, by simp [fits4_o, Tk.fits, h1, h2, h3], .same _, rfl, rfl⟩
        · exact good_walk host fits3_n (c := fitsC e u) (fits3_1 e u) (fits3_2 e u) (by simp [fits3_o, h1, h2] <;> omega) rfl hl fun ν => ⟨[], rfl, rfl, by simp [fits3_o, Tk.fits, h1, h2, h3], .same _, rfl, rfl⟩
      · exact good_walk host fits2_n (c := fitsC e u) (fits2_1 e u) (fits2_2 e u) (by simp [fits2_o, h1] <;> omega) rfl hl fun ν => ⟨[], rfl, rfl, by simp [fits2_o, Tk.fits, h1, h2], .same _, rfl, rfl⟩
    · exact good_walk host fits1_n (c := fitsC e u) (fits1_1 e u) (fits1_2 e u) (by simp [fits1_o] <;> omega) rfl hl fun ν => ⟨[], rfl, rfl, by simp [fits1_o, Tk.fits, h1], .same _, rfl, rfl⟩
  · exact good_fail
def rightP (args : Array Value) : CP := match args.toList with
  | [.agg ⟨[.int .u8 k, .int .i64 a, .int .i64 n]⟩] => .done 0 fun _ => { res := .bool (Tk.right k a n) }
  | _ => .fail
theorem right_ok : (⟨27, rightP⟩ : Contract).Ok Tryd.prog := con_start fun args w => by
  unfold rightP
  split
  · rename_i k a n hargs
    obtain rfl := args_of hargs
    refine good_done fun hl => ?_
    by_cases h1 : 0 ≤ a
    · by_cases h2 : a ≤ 2305843009213693952
      · by_cases h3 : k = 1
        · subst h3
          by_cases h4 : 1 ≤ n
          · exact good_walk host right4_n (c := rightC 1 a n) (right4_1 1 a n) (right4_2 1 a n) (by simp [right4_o] <;> omega) rfl hl fun ν => ⟨[], rfl, rfl, by simp [right4_o, Tk.right, h1, h2, h4], .same _, rfl, rfl⟩
          · exact good_walk host right3_n (c := rightC 1 a n) (right3_1 1 a n) (right3_2 1 a n) (by simp [right3_o] <;> omega) rfl hl fun ν => ⟨[], rfl, rfl, by simp [right3_o, Tk.right, h1, h2, h4], .same _, rfl, rfl⟩
        · by_cases h4 : k = 2
          · subst h4
            exact good_walk host right5_n (c := rightC 2 a n) (right5_1 2 a n) (right5_2 2 a n) (by simp [right5_o] <;> omega) rfl hl fun ν => ⟨[], rfl, rfl, by simp [right5_o, Tk.right, h1, h2]; rfl, .same _, rfl, rfl⟩
          · exact good_walk host right6_n (c := rightC k a n) (right6_1 k a n) (right6_2 k a n) (by simp [right6_o] <;> omega) rfl hl fun ν => ⟨[], rfl, rfl, by simp [right6_o, Tk.right, h3, h4], .same _, rfl, rfl⟩
      · exact good_walk host right2_n (c := rightC k a n) (right2_1 k a n) (right2_2 k a n) (by simp [right2_o] <;> omega) rfl hl fun ν => ⟨[], rfl, rfl, by simp [right2_o, Tk.right, h2], .same _, rfl, rfl⟩
    · exact good_walk host right1_n (c := rightC k a n) (right1_1 k a n) (right1_2 k a n) (by simp [right1_o] <;> omega) rfl hl fun ν => ⟨[], rfl, rfl, by simp [right1_o, Tk.right, h1], .same _, rfl, rfl⟩
  · exact good_fail

/-! ### Done, Answer, Word -/
def doneP (args : Array Value) : CP := match args.toList with
  | [.pointer (some ⟨p, 0, none⟩)] => loadBool ⟨p, 6, none⟩ fun over => .done 0 fun _ => { res := .bool over }
  | _ => .fail
theorem done_ok : (⟨15, doneP⟩ : Contract).Ok Tryd.prog := con_start fun args w => by
  unfold doneP
  split
  · rename_i p hargs
    obtain rfl := args_of hargs
    exact good_bool fun over => good_done fun hl => good_walk host1 done1_n (c := doneC p over) (done1_1 p over) (done1_2 p over) (by simp [done1_o]) rfl hl fun ν => ⟨[], rfl, rfl, rfl, .same _, rfl, rfl⟩
  · exact good_fail
def tookV (ok : Bool) (wait left : Int) : Value := .agg #[.bool ok, .int .i64 wait, .int .i64 left]
def answerP (args : Array Value) : CP := match args.toList with
  | [.pointer (some ⟨p, 0, none⟩)] => loadBool ⟨p, 6, none⟩ fun over => loadBool ⟨p, 7, none⟩ fun ok => loadI64 ⟨p, 8, none⟩ fun wait => loadI64 ⟨p, 9, none⟩ fun left =>
    .done 0 fun _ => { res := tookV (over && ok) (if over = true then wait else 0) (if over = true then left else 0) }
  | [.pointer none] => .done 0 fun _ => { res := tookV false 0 0 }
  | _ => .fail
theorem answer_ok : (⟨17, answerP⟩ : Contract).Ok Tryd.prog := con_start fun args w => by
  unfold answerP
  split
  · rename_i p hargs
    obtain rfl := args_of hargs
    refine good_bool fun over => good_bool fun ok => good_i64 fun wait => good_i64 fun left => good_done fun hl => ?_
    cases over
    · exact good_walk host1 answer2_n (c := answerC p false ok wait left) (answer2_1 p false ok wait left) (answer2_2 p false ok wait left) (by simp [answer2_o]) rfl hl fun ν => ⟨[], rfl, rfl, by simp [answer2_o, tookV], .same _, rfl, rfl⟩
    · exact good_walk host1 answer1_n (c := answerC p true ok wait left) (answer1_1 p true ok wait left) (answer1_2 p true ok wait left) (by simp [answer1_o]) rfl hl fun ν => ⟨[], rfl, rfl, by simp [answer1_o, tookV], .same _, rfl, rfl⟩
  · rename_i hargs
    obtain rfl := args_of hargs
    exact good_done fun hl => good_walk host1 answer3_n (c := answerNC) answer3_1 answer3_2 (by simp [answer3_o]) rfl hl fun ν => ⟨[], rfl, rfl, rfl, .same _, rfl, rfl⟩
  · exact good_fail
def wordP (args : Array Value) : CP := match args.toList with
  | [.pointer (some ⟨b, 0, none⟩)] => loadPtr ⟨b, 0, none⟩ fun c => loadSl ⟨c, 0, none⟩ fun ws m _ => needs (Nat.blt 0 m) <| loadU64 ⟨ws, 0, none⟩ fun t => .done 0 fun _ => { res := .int .u64 t }
  | _ => .fail
theorem word_ok : (⟨22, wordP⟩ : Contract).Ok Tryd.prog := con_start fun args w => by
  unfold wordP
  split
  · rename_i b hargs
    obtain rfl := args_of hargs
    refine good_ptr fun c => good_sl fun ws m cap => good_needs fun hm => good_u64 fun t => good_done fun hl => ?_
    rw [blt_lt] at hm
    exact good_walk host1 word1_n (c := wordC b c ws m cap t) (word1_1 b c ws m cap t) (word1_2 b c ws m cap t) (by simp [word1_o] <;> omega) rfl hl fun ν => ⟨[], rfl, rfl, rfl, .same _, rfl, rfl⟩
  · exact good_fail

/-! ### Step -/
def nextF (put : Bool) : Nat := match put with
  | true => 33
  | false => 28
def isPut (f : Nat) : Bool := Nat.beq f 33
theorem isPut_put : isPut 33 = true := by rfl
theorem isPut_load : isPut 28 = false := by rfl
def loadFn (a : Addr) (k : Nat → CP) : CP := .load a fun v => match v with
  | .func (.func f) ⟨[]⟩ ⟨[]⟩ => k f
  | _ => .fail
theorem good_fn {P : Program} {f : FuncId} {args : Array Value} {w : World} {l : List (Nat × Nat × Value)} {b o : Nat} {k : Nat → CP} (h : ∀ z, ConGoal P f args w ((b, o, .func (.func z) #[] #[]) :: l) (k z)) : ConGoal P f args w l (loadFn ⟨b, o, none⟩ k) := good_load fun v => by
  split
  · exact h _
  · exact good_fail
def okStep (e u t kind at_ n saw : Int) (f : Nat) (ok : Bool) (wait left : Int) (m : Nat) : Bool :=
  Tk.fits e u && Tk.inT t && Tk.inT saw && Tk.right kind at_ n && (isPut f || Nat.beq f 28) && !ok && wait == 0 && left == 0 && Nat.blt 0 m
def stepEnds (p ws : Nat) (z : Tk.Out) : Sy.Ends where
  res := .tuple #[didV z.d.kind 0 z.d.saw z.d.put z.d.ok, .bool z.u.over]
  st := [(ws, 0, .int .u64 z.t), (p, 9, .int .i64 z.u.left), (p, 8, .int .i64 z.u.wait), (p, 7, .bool z.u.ok), (p, 5, .int .u64 z.u.saw), (p, 4, .func (.func (nextF z.u.put)) #[] #[]), (p, 6, .bool z.u.over)]
def stepP (args : Array Value) : CP := match args.toList with
  | [.pointer (some ⟨p, 0, none⟩)] => loadBool ⟨p, 6, none⟩ fun over => .test over fun g => match g with
    | true => .done 0 fun _ => { res := .tuple #[didV 0 0 0 0 false, .bool true] }
    | false => loadsB 0 usesL <| loadPtr ⟨p, 0, none⟩ fun b => loadU8 ⟨p, 1, none⟩ fun kind => loadI64 ⟨p, 2, none⟩ fun at_ => loadI64 ⟨p, 3, none⟩ fun n => loadFn ⟨p, 4, none⟩ fun f => loadU64 ⟨p, 5, none⟩ fun saw =>
      loadBool ⟨p, 7, none⟩ fun ok => loadI64 ⟨p, 8, none⟩ fun wait => loadI64 ⟨p, 9, none⟩ fun left => loadPtr ⟨b, 0, none⟩ fun c => loadI64 ⟨b, 1, none⟩ fun e => loadI64 ⟨b, 2, none⟩ fun u => loadSl ⟨c, 0, none⟩ fun ws m _ => loadU64 ⟨ws, 0, none⟩ fun t =>
      needs (okStep e u t kind at_ n saw f ok wait left m) <| .done 0 fun _ => stepEnds p ws (Tk.step e u t { kind := kind, at_ := at_, n := n, put := isPut f, saw := saw })
  | _ => .fail

section
variable {e u t a n s : Int}
theorem Tk.Fine.wt (h : Tk.Fine e u t a n) : IntKind.i64.wrap t = t := wrap_i64 (by have := h.t1; omega) (by have := h.t2; omega)
theorem Tk.Fine.wne (h : Tk.Fine e u t a n) : IntKind.i64.wrap (n * e) = n * e := wrap_i64 (by have := h.ne; omega) (by have := h.ne; omega)
theorem Tk.Fine.wue (h : Tk.Fine e u t a n) : IntKind.i64.wrap (u * e) = u * e := wrap_i64 (by have := h.ue; omega) (by have := h.ue; omega)
theorem Tk.Fine.max (h : Tk.Fine e u t a n) : (if a > t then a else t) = Max.max t a := by split <;> omega
theorem Tk.Fine.wnext (h : Tk.Fine e u t a n) : IntKind.i64.wrap (Max.max t a + n * e) = Tk.next e t a n := wrap_i64 (by have := h.ne; have := h.t1; omega) (by have := h.ne; have := h.t2; have := h.a2; omega)
theorem Tk.Fine.wstop (h : Tk.Fine e u t a n) : IntKind.i64.wrap (a + u * e) = Tk.stop e u a := wrap_i64 (by have := h.ue; have := h.a1; omega) (by have := h.ue; have := h.a2; omega)
theorem Tk.Fine.unext (h : Tk.Fine e u t a n) : IntKind.u64.wrap (Tk.next e t a n) = Tk.next e t a n := wrap_u64 (by unfold Tk.next; have := h.ne; have := h.t1; omega) (by unfold Tk.next; have := h.ne; have := h.t2; have := h.a2; omega)
theorem Tk.Fine.wdiff (h : Tk.Fine e u t a n) : IntKind.i64.wrap (Tk.next e t a n - Tk.stop e u a) = Tk.next e t a n - Tk.stop e u a := by
  have h1 := h.ne; have h2 := h.ue; have h3 := h.t1; have h4 := h.t2; have h5 := h.a1; have h6 := h.a2
  exact wrap_i64 (by unfold Tk.next Tk.stop; omega) (by unfold Tk.next Tk.stop; omega)
theorem Tk.Fine.wroom (h : Tk.Fine e u t a n) : IntKind.i64.wrap (Tk.stop e u a - Max.max t a) = Tk.stop e u a - Max.max t a := by
  have h2 := h.ue; have h3 := h.t1; have h4 := h.t2; have h5 := h.a1; have h6 := h.a2
  exact wrap_i64 (by unfold Tk.stop; omega) (by unfold Tk.stop; omega)
theorem Tk.Fine.wleft (h : Tk.Fine e u t a n) : IntKind.i64.wrap (Int.tdiv (if 0 > Tk.stop e u a - Max.max t a then 0 else Tk.stop e u a - Max.max t a) e) = Tk.leftOf e u t a := by
  have e0 : (if 0 > Tk.stop e u a - Max.max t a then 0 else Tk.stop e u a - Max.max t a) = Max.max (Tk.stop e u a - Max.max t a) 0 := by split <;> omega
  rw [e0, Int.tdiv_eq_ediv_of_nonneg (by omega)]
  have := h.left_le
  have := h.u2
  exact wrap_i64 (by unfold Tk.leftOf at *; omega) (by unfold Tk.leftOf at *; omega)
end

theorem step_ok : (⟨16, stepP⟩ : Contract).Ok Tryd.prog := con_start fun args w => by
  unfold stepP
  split
  · rename_i p hargs
    obtain rfl := args_of hargs
    refine good_bool fun over => good_test ?_
    cases over
    · refine good_bools (good_ptr fun b => good_u8 fun kind => good_i64 fun at_ => good_i64 fun n => good_fn fun f => good_u64 fun saw => good_bool fun ok => good_i64 fun wait => good_i64 fun left => good_ptr fun c => good_i64 fun e => good_i64 fun u => good_sl fun ws m cap => good_u64 fun t => good_needs fun hn => good_done fun hl => ?_)
      simp only [okStep, Bool.and_eq_true, Tk.fits_iff, Tk.inT_iff, Tk.right_iff, Bool.or_eq_true, Bool.not_eq_true', beq_iff_eq, blt_lt] at hn
      obtain ⟨⟨⟨⟨⟨⟨⟨⟨h1, h2⟩, h3⟩, h4⟩, h5⟩, rfl⟩, rfl⟩, rfl⟩, h6⟩ := hn
      have F : Tk.Fine e u t at_ n := ⟨h1.1, h1.2.1, h1.2.2.1, h1.2.2.2, h2.1, h2.2, h4.1, h4.2.1, by omega, by omega⟩
      have F' : Tk.Fine e u saw at_ n := ⟨h1.1, h1.2.1, h1.2.2.1, h1.2.2.2, h3.1, h3.2, h4.1, h4.2.1, by omega, by omega⟩
      have ht := F.wt
      have hs := F'.wt
      rcases h5 with h5 | h5
      · have hf := Nat.eq_of_beq_eq_true (show Nat.beq f 33 = true from h5)
        subst hf
        by_cases hh : t = saw
        · subst hh
          have ez : Tk.step e u t { kind := kind, at_ := at_, n := n, put := isPut 33, saw := t } = ⟨Tk.next e t at_ n, { kind := kind, at_ := at_, n := n, put := false, saw := t, over := true, ok := true }, ⟨5, t, Tk.next e t at_ n, true⟩⟩ := by simp [Tk.step, isPut_put, isPut_load]
          rw [ez]
          exact good_walk host1 put1_n (c := putC p b c ws m cap kind at_ n t e u t) (put1_1 p b c ws m cap kind at_ n t e u t) (put1_2 p b c ws m cap kind at_ n t e u t) (by simp [put1_o] <;> omega) rfl hl fun ν => ⟨[], rfl, rfl, by simp [put1_o, stepEnds, didV, ht, F.wne, F.max, F.wnext, F.unext],
            by simp only [put1_o, stepEnds, ht, F.wne, F.max, F.wnext, F.unext, beq_self_eq_true, if_true]; exact (.set (.keep (.keep (.keep (.keep (.set (.set (.set (.set (.set (.keep (.keep (.keep (.keep (.keep (.keep (.keep (.keep (.keep (.keep (.keep (.keep (.keep (.keep (.keep (.keep (.set .nil))))))))))))))))))))))))))), rfl, rfl⟩
        · have ez : Tk.step e u t { kind := kind, at_ := at_, n := n, put := isPut 33, saw := saw } = ⟨t, { kind := kind, at_ := at_, n := n, put := false, saw := saw }, ⟨5, t, t, false⟩⟩ := by simp [Tk.step, isPut_put, isPut_load, hh]
          rw [ez]
          have hb : (t == saw) = false := by simpa using hh
          exact good_walk host1 put2_n (c := putC p b c ws m cap kind at_ n saw e u t) (put2_1 p b c ws m cap kind at_ n saw e u t) (put2_2 p b c ws m cap kind at_ n saw e u t) (by simp [put2_o, hh] <;> omega) rfl hl fun ν => ⟨[], rfl, rfl, by simp [put2_o, stepEnds, didV, hh],
            by simp only [put2_o, stepEnds, hb, hh, if_false]; exact (.set (.keep (.keep (.keep (.keep (.set (.set (.set (.set (.set (.keep (.keep (.keep (.keep (.keep (.keep (.keep (.keep (.keep (.keep (.keep (.keep (.keep (.keep (.keep (.keep (.set .nil))))))))))))))))))))))))))), rfl, rfl⟩
      · have hf := Nat.eq_of_beq_eq_true h5
        subst hf
        by_cases hk : kind = 2
        · subst hk
          have ez : Tk.step e u t { kind := 2, at_ := at_, n := n, put := isPut 28, saw := saw } = ⟨t, { kind := 2, at_ := at_, n := n, put := false, saw := t, over := true, left := Tk.leftOf e u t at_ }, ⟨1, t, t, true⟩⟩ := by simp [Tk.step, isPut_put, isPut_load]
          rw [ez]
          exact good_walk host1 load1_n (c := peekC p b c ws m cap at_ n saw e u t) (load1_1 p b c ws m cap at_ n saw e u t) (load1_2 p b c ws m cap at_ n saw e u t) (by simp [load1_o] <;> omega) rfl hl fun ν => ⟨[], rfl, rfl, by simp [load1_o, stepEnds, didV],
            by simp only [load1_o, stepEnds, ht, F.wue, F.max, F.wstop, F.wroom, F.wleft]; exact (.set (.keep (.keep (.keep (.keep (.set (.set (.set (.set (.set (.keep (.keep (.keep (.keep (.keep (.keep (.keep (.keep (.keep (.keep (.keep (.keep (.keep (.keep (.keep (.keep (.set .nil))))))))))))))))))))))))))), rfl, rfl⟩
        · by_cases hx : Tk.next e t at_ n > Tk.stop e u at_
          · by_cases hu : n > u
            · have ez : Tk.step e u t { kind := kind, at_ := at_, n := n, put := isPut 28, saw := saw } = ⟨t, { kind := kind, at_ := at_, n := n, put := false, saw := t, over := true, wait := -1 }, ⟨1, t, t, true⟩⟩ := by simp [Tk.step, isPut_put, isPut_load, hk, hx, Tk.waitOf, hu]
              rw [ez]
              exact good_walk host1 load2_n (c := loadC p b c ws m cap kind at_ n saw e u t) (load2_1 p b c ws m cap kind at_ n saw e u t) (load2_2 p b c ws m cap kind at_ n saw e u t) (by simp [load2_o, hk, ht, F.wne, F.wue, F.max, F.wnext, F.wstop, hu] <;> omega) rfl hl fun ν => ⟨[], rfl, rfl, by simp [load2_o, stepEnds, didV],
                (.set (.keep (.keep (.keep (.keep (.set (.set (.set (.set (.set (.keep (.keep (.keep (.keep (.keep (.keep (.keep (.keep (.keep (.keep (.keep (.keep (.keep (.keep (.keep (.keep (.set .nil))))))))))))))))))))))))))), rfl, rfl⟩
            · have ez : Tk.step e u t { kind := kind, at_ := at_, n := n, put := isPut 28, saw := saw } = ⟨t, { kind := kind, at_ := at_, n := n, put := false, saw := t, over := true, wait := Tk.next e t at_ n - Tk.stop e u at_ }, ⟨1, t, t, true⟩⟩ := by simp [Tk.step, isPut_put, isPut_load, hk, hx, Tk.waitOf, hu]
              rw [ez]
              exact good_walk host1 load3_n (c := loadC p b c ws m cap kind at_ n saw e u t) (load3_1 p b c ws m cap kind at_ n saw e u t) (load3_2 p b c ws m cap kind at_ n saw e u t) (by simp [load3_o, hk, ht, F.wne, F.wue, F.max, F.wnext, F.wstop, hu] <;> omega) rfl hl fun ν => ⟨[], rfl, rfl, by simp [load3_o, stepEnds, didV],
                by simp only [load3_o, stepEnds, ht, F.wne, F.wue, F.max, F.wnext, F.wstop, F.wdiff]; exact (.set (.keep (.keep (.keep (.keep (.set (.set (.set (.set (.set (.keep (.keep (.keep (.keep (.keep (.keep (.keep (.keep (.keep (.keep (.keep (.keep (.keep (.keep (.keep (.keep (.set .nil))))))))))))))))))))))))))), rfl, rfl⟩
          · have ez : Tk.step e u t { kind := kind, at_ := at_, n := n, put := isPut 28, saw := saw } = ⟨t, { kind := kind, at_ := at_, n := n, put := true, saw := t }, ⟨1, t, t, true⟩⟩ := by simp [Tk.step, isPut_put, isPut_load, hk, hx]
            rw [ez]
            exact good_walk host1 load4_n (c := loadC p b c ws m cap kind at_ n saw e u t) (load4_1 p b c ws m cap kind at_ n saw e u t) (load4_2 p b c ws m cap kind at_ n saw e u t) (by simp [load4_o, hk, ht, F.wne, F.wue, F.max, F.wnext, F.wstop] <;> omega) rfl hl fun ν => ⟨[], rfl, rfl, by simp [load4_o, stepEnds, didV],
              (.set (.keep (.keep (.keep (.keep (.set (.set (.set (.set (.set (.keep (.keep (.keep (.keep (.keep (.keep (.keep (.keep (.keep (.keep (.keep (.keep (.keep (.keep (.keep (.keep (.set .nil))))))))))))))))))))))))))), rfl, rfl⟩
    · exact good_done fun hl => good_walk host1 over_n (c := overC p) (over_1 p) (over_2 p) (by simp [over_o]) rfl hl fun ν => ⟨[], rfl, rfl, rfl, .same _, rfl, rfl⟩
  · exact good_fail
end Go.Proofs.YthglajoihlaldaaDoor
