/- Token buckets: Take, Peek as contracts; 'begins' of the statements: a walk. -/
import Derived.Test.YthglajoihlaldaaDoorTokE
namespace Go.Proofs.YthglajoihlaldaaDoor
open Go Sy
set_option maxRecDepth 100000
theorem isPut_next (b : Bool) : isPut (nextF b) = b := by cases b <;> rfl
theorem isLoad_next (b : Bool) : (isPut (nextF b) || Nat.beq (nextF b) 28) = true := by cases b <;> rfl
theorem okStep_next {e u t kind at_ n saw : Int} {b : Bool} {m : Nat} (h1 : Tk.fits e u = true) (h2 : Tk.inT t = true) (h3 : Tk.inT saw = true) (h4 : Tk.right kind at_ n = true) (h5 : Nat.blt 0 m = true) : okStep e u t kind at_ n saw (nextF b) false 0 0 m = true := by
  unfold okStep
  rw [h1, h2, h3, h4, h5, isLoad_next]
  rfl
def bP (b : Nat) (k : Nat → Nat → Int → Int → Int → CP) : CP := loadsB 0 usesL <| loadPtr ⟨b, 0, none⟩ fun c => loadI64 ⟨b, 1, none⟩ fun e => loadI64 ⟨b, 2, none⟩ fun u => loadSl ⟨c, 0, none⟩ fun ws m _ => loadU64 ⟨ws, 0, none⟩ fun t =>
  needs (Tk.fits e u && Tk.inT t && Nat.blt 0 m) <| k c ws e u t
def takeP (args : Array Value) : CP := match args.toList with
  | [.pointer (some ⟨b, 0, none⟩), .int .i64 a, .int .i64 n] => bP b fun _ ws e u t => .done 0 fun _ => { res := .tuple #[tookV (Tk.take e u t a n).ok (Tk.take e u t a n).wait 0, errV (Tk.take e u t a n).err], st := [(ws, 0, .int .u64 (Tk.take e u t a n).t)] }
  | _ => .fail
def peekP (args : Array Value) : CP := match args.toList with
  | [.pointer (some ⟨b, 0, none⟩), .int .i64 a] => bP b fun _ _ e u t => .done 0 fun _ => { res := .tuple #[.int .i64 (Tk.peek e u t a).left, errV (Tk.peek e u t a).err] }
  | _ => .fail
theorem take_ok : (⟨12, takeP⟩ : Contract).Ok Tryd.prog := con_start fun args w => by
  unfold takeP
  split
  · rename_i b a n hargs
    obtain rfl := args_of hargs
    refine good_bools (good_ptr fun c => good_i64 fun e => good_i64 fun u => good_sl fun ws m cap => good_u64 fun t => good_needs fun hn => good_done fun hl => ?_)
    simp only [Bool.and_eq_true] at hn
    obtain ⟨⟨h1, h2⟩, h3⟩ := hn
    cases hr : Tk.right 1 a n
    · have ez : Tk.take e u t a n = ⟨t, false, 0, 2⟩ := by simp [Tk.take, hr]
      rw [ez]
      exact good_walk host3 take1_n (c := takeC b c ws m cap a n e u t) (take1_1 b c ws m cap a n e u t) (take1_2 b c ws m cap a n e u t) (by simp [take1_o, hr]) rfl hl fun ν => ⟨[], rfl, rfl, rfl, .set (.same _), rfl, rfl⟩
    · have F := Tk.fine h1 h2 hr
      have hk : okStep e u t 1 a n 0 (nextF false) false 0 0 m = true := okStep_next h1 h2 rfl hr h3
      by_cases hx : Tk.next e t a n > Tk.stop e u a
      · have ez : Tk.take e u t a n = ⟨t, false, Tk.waitOf e u t a n, 0⟩ := by simp [Tk.take, hr, hx]
        have es : Tk.step e u t { kind := 1, at_ := a, n := n, put := false } = ⟨t, { kind := 1, at_ := a, n := n, saw := t, over := true, wait := Tk.waitOf e u t a n }, ⟨1, t, t, true⟩⟩ := by simp [Tk.step, hx]
        rw [ez]
        exact good_walk host3 take2_n (c := takeC b c ws m cap a n e u t) (take2_1 b c ws m cap a n e u t) (take2_2 b c ws m cap a n e u t) (by simp [take2_o, hr, isPut_next, es, hk]) rfl hl fun ν => ⟨[], rfl, rfl, by simp [take2_o, isPut_next, es, tookV, errV], by simp only [take2_o, isPut_next, es]; exact .set (.same _), rfl, rfl⟩
      · have ez : Tk.take e u t a n = ⟨Tk.next e t a n, true, 0, 0⟩ := by simp [Tk.take, hr, hx]
        have es : Tk.step e u t { kind := 1, at_ := a, n := n, put := false } = ⟨t, { kind := 1, at_ := a, n := n, put := true, saw := t }, ⟨1, t, t, true⟩⟩ := by simp [Tk.step, hx]
        have es2 : Tk.step e u t { kind := 1, at_ := a, n := n, put := true, saw := t } = ⟨Tk.next e t a n, { kind := 1, at_ := a, n := n, saw := t, over := true, ok := true }, ⟨5, t, Tk.next e t a n, true⟩⟩ := by simp [Tk.step]
        have hk2 : okStep e u t 1 a n t (nextF true) false 0 0 m = true := okStep_next h1 h2 h2 hr h3
        rw [ez]
        exact good_walk host3 take3_n (c := takeC b c ws m cap a n e u t) (take3_1 b c ws m cap a n e u t) (take3_2 b c ws m cap a n e u t) (by simp [take3_o, hr, isPut_next, es, hk, es2, hk2]) rfl hl fun ν => ⟨[], rfl, rfl, by simp [take3_o, isPut_next, es, es2, tookV, errV],
          by simp only [take3_o, isPut_next, es, es2]; exact .set (.same _), rfl, rfl⟩
  · exact good_fail
theorem peek_ok : (⟨13, peekP⟩ : Contract).Ok Tryd.prog := con_start fun args w => by
  unfold peekP
  split
  · rename_i b a hargs
    obtain rfl := args_of hargs
    refine good_bools (good_ptr fun c => good_i64 fun e => good_i64 fun u => good_sl fun ws m cap => good_u64 fun t => good_needs fun hn => good_done fun hl => ?_)
    simp only [Bool.and_eq_true] at hn
    obtain ⟨⟨h1, h2⟩, h3⟩ := hn
    cases hr : Tk.right 2 a 0
    · have ez : Tk.peek e u t a = ⟨0, 2⟩ := by simp [Tk.peek, hr]
      rw [ez]
      exact good_walk host3 peek1_n (c := peekC' b c ws m cap a e u t) (peek1_1 b c ws m cap a e u t) (peek1_2 b c ws m cap a e u t) (by simp [peek1_o, hr]) rfl hl fun ν => ⟨[], rfl, rfl, rfl, .same _, rfl, rfl⟩
    · have hk : okStep e u t 2 a 0 0 (nextF false) false 0 0 m = true := okStep_next h1 h2 rfl hr h3
      have ez : Tk.peek e u t a = ⟨Tk.leftOf e u t a, 0⟩ := by simp [Tk.peek, hr]
      have es : Tk.step e u t { kind := 2, at_ := a, n := 0, put := false } = ⟨t, { kind := 2, at_ := a, n := 0, saw := t, over := true, left := Tk.leftOf e u t a }, ⟨1, t, t, true⟩⟩ := by simp [Tk.step]
      rw [ez]
      exact good_walk host3 peek2_n (c := peekC' b c ws m cap a e u t) (peek2_1 b c ws m cap a e u t) (peek2_2 b c ws m cap a e u t) (by simp [peek2_o, hr, isPut_next, es, hk]) rfl hl fun ν => ⟨[], rfl, rfl, by simp [peek2_o, isPut_next, es, errV], by simp only [peek2_o, isPut_next, es]; exact .same _, rfl, rfl⟩
  · exact good_fail
def consL4 : List Contract := ⟨12, takeP⟩ :: ⟨13, peekP⟩ :: consL3
theorem cons4 : ∀ c ∈ consL4, c.Ok Tryd.prog := con_ok take_ok (con_ok peek_ok cons3)
noncomputable def host4 : Host Tryd.prog := hostOf _ cons4
def beginsC : Case := { f := 10, args := #[], mem := { loose := usesC } }
def begins_n : Notes := { tr := [1, 0, 0, 0, 0, 16, 15, 14, 13, 12, 11, 10, 9, 8, 7, 6, 5, 2, 3, 4, 1, 0, 1, 0, 0, 1, 2, 19, 18, 17, 16, 15, 14, 13, 12, 11, 10, 9, 8, 5, 6, 7, 4, 3, 1, 3, 0, 1, 2, 22, 21, 20, 19, 18, 17, 16, 15, 14, 13, 12, 11, 8, 9, 10, 7, 6, 1, 1, 3, 4, 5, 1, 1, 1, 1, 1, 1, 1, 0, 1, 2, 1, 1, 1, 1, 1, 1, 1, 1, 1], tb := [], todo := [], keep := [], big := [], unroll := [], gcs := [([23], [false, false, false, false, false, false, false, false, false, false, false, true, true, true, true, true, true, true, true, true, true, true, true], [false, false, false, false, false])] }
def begins_o  (ν : Key → Nat) : Value × Sy.Left := (.bool true, ⟨[], [(0, 11, .bool true), (0, 10, .bool true), (0, 9, .bool true), (0, 8, .bool false), (0, 7, .bool true), (0, 6, .bool false), (0, 5, .bool true), (0, 4, .bool false), (0, 3, .bool false), (0, 2, .bool false), (0, 1, .bool false), (0, 0, .bool false)], [], [], []⟩)
theorem begins_1  (ν : Key → Nat) : ((beginsC ).run host4 begins_n ν).map Prod.fst = some (begins_o  ν) := by kernel_rfl
theorem begins_2  (ν : Key → Nat) : ((beginsC ).run host4 begins_n ν).map lefts = ((beginsC ).run host4 begins_n ν).map rights := by kernel_rfl
def beginsP (args : Array Value) : CP := match args.toList with
  | [] => loadsB 0 usesL <| .done 0 fun _ => { res := .bool true }
  | _ => .fail
theorem begins_ok : (⟨10, beginsP⟩ : Contract).Ok Tryd.prog := con_start fun args w => by
  unfold beginsP
  split
  · rename_i hargs
    obtain rfl := args_of hargs
    exact good_bools (good_done fun hl => good_walk host4 begins_n (c := beginsC) begins_1 begins_2 (by simp [begins_o]) rfl hl fun ν => ⟨[], rfl, rfl, rfl, .same _, rfl, rfl⟩)
  · exact good_fail
def consL5 : List Contract := ⟨10, beginsP⟩ :: consL4
theorem cons5 : ∀ c ∈ consL5, c.Ok Tryd.prog := con_ok begins_ok cons4
noncomputable def host5 : Host Tryd.prog := hostOf _ cons5
end Go.Proofs.YthglajoihlaldaaDoor
