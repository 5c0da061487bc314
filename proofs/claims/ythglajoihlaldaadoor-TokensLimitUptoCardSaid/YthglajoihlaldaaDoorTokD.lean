/- Token buckets: Start, New: walks. -/
import Derived.Test.YthglajoihlaldaaDoorTokC
namespace Go.Proofs.YthglajoihlaldaaDoor
open Go Sy
set_option maxRecDepth 100000
def consL2 : List Contract := [⟨24, fitsP⟩, ⟨27, rightP⟩, ⟨15, doneP⟩, ⟨17, answerP⟩, ⟨22, wordP⟩, ⟨16, stepP⟩]
theorem cons2 : ∀ c ∈ consL2, c.Ok Tryd.prog := con_ok fits_ok (con_ok right_ok (con_ok done_ok (con_ok answer_ok (con_ok word_ok (con_ok step_ok con_nil)))))
noncomputable def host2 : Host Tryd.prog := hostOf _ cons2
def startC (b : Nat) (k a n : Int) : Case := { f := 14, args := #[.pointer (some ⟨b, 0, none⟩), .agg #[.int .u8 k, .int .i64 a, .int .i64 n]] }
def newC (e u : Int) : Case := { f := 11, args := #[.int .i64 e, .int .i64 u] }
def start1_n : Notes := { tr := [0, 0, 1, 2, 2, 0, 1, 2], tb := [], todo := [], keep := [[0, 0, 3, 3]], big := [], unroll := [], gcs := [([13], [true, true, true, true, true, true, true, true, true, true, false, false, false], [true, false])] }
def start1_o (b : Nat) (k : Int) (a : Int) (n : Int) (ν : Key → Nat) : Value × Sy.Left := (.tuple #[.pointer (some { block := ν [0, 0, 0 + 1 + 1 + 1, 0 + 1 + 1 + 1], off := 0 }), .int .i64 0], ⟨[], [], [], [(ν [0, 0, 0 + 1 + 1 + 1, 0 + 1 + 1 + 1], 76, [.pointer (some { block := b, off := 0 }), .int .u8 k, .int .i64 a, .int .i64 n, .func (.func 28) #[] #[], .int .u64 0, .bool false, .bool false, .int .i64 0, .int .i64 0])], [(!Tk.right k a n, false)]⟩)
theorem start1_1 (b : Nat) (k : Int) (a : Int) (n : Int) (ν : Key → Nat) : ((startC b k a n).run host2 start1_n ν).map Prod.fst = some (start1_o b k a n ν) := by kernel_rfl
theorem start1_2 (b : Nat) (k : Int) (a : Int) (n : Int) (ν : Key → Nat) : ((startC b k a n).run host2 start1_n ν).map lefts = ((startC b k a n).run host2 start1_n ν).map rights := by kernel_rfl
def start2_n : Notes := { tr := [0, 0, 1, 2, 3], tb := [], todo := [], keep := [], big := [], unroll := [], gcs := [([3], [false, false, false], [false])] }
def start2_o (b : Nat) (k : Int) (a : Int) (n : Int) (ν : Key → Nat) : Value × Sy.Left := (.tuple #[.pointer none, .int .i64 2], ⟨[], [], [], [], [(!Tk.right k a n, true)]⟩)
theorem start2_1 (b : Nat) (k : Int) (a : Int) (n : Int) (ν : Key → Nat) : ((startC b k a n).run host2 start2_n ν).map Prod.fst = some (start2_o b k a n ν) := by kernel_rfl
theorem start2_2 (b : Nat) (k : Int) (a : Int) (n : Int) (ν : Key → Nat) : ((startC b k a n).run host2 start2_n ν).map lefts = ((startC b k a n).run host2 start2_n ν).map rights := by kernel_rfl
def new1_n : Notes := { tr := [2, 0, 0, 0, 0, 0], tb := [], todo := [], keep := [[0, 0, 4, 4], [0, 0, 3, 2, 1, 0, 2], [0, 0, 1, 2, 1, 0, 2]], big := [], unroll := [], gcs := [] }
def new1_o (e : Int) (u : Int) (ν : Key → Nat) : Value × Sy.Left := (.tuple #[.pointer (some { block := ν [0, 0, 0 + 1 + 1 + 1 + 1, 0 + 1 + 1 + 1 + 1], off := 0 }), .int .i64 0], ⟨[], [], [], [(ν [0, 0, 0 + 1 + 1 + 1 + 1, 0 + 1 + 1 + 1 + 1], 71, [.pointer (some { block := ν [0, 0, 0 + 1 + 1 + 1, 0 + 1 + 1, 1, 0, 0 + 1 + 1], off := 0 }), .int .i64 e, .int .i64 u]), (ν [0, 0, 0 + 1 + 1 + 1, 0 + 1 + 1, 1, 0, 0 + 1 + 1], 82, [.slice (some { block := ν [0, 0, 0 + 1, 0 + 1 + 1, 1, 0, 0 + 1 + 1], off := 0 }) 1 1]), (ν [0, 0, 0 + 1, 0 + 1 + 1, 1, 0, 0 + 1 + 1], 96, [.int .u64 0])], [(!Tk.fits e u, false)]⟩)
theorem new1_1 (e : Int) (u : Int) (ν : Key → Nat) : ((newC e u).run host2 new1_n ν).map Prod.fst = some (new1_o e u ν) := by kernel_rfl
theorem new1_2 (e : Int) (u : Int) (ν : Key → Nat) : ((newC e u).run host2 new1_n ν).map lefts = ((newC e u).run host2 new1_n ν).map rights := by kernel_rfl
def new2_n : Notes := { tr := [3], tb := [], todo := [], keep := [], big := [], unroll := [], gcs := [] }
def new2_o (e : Int) (u : Int) (ν : Key → Nat) : Value × Sy.Left := (.tuple #[.pointer none, .int .i64 2], ⟨[], [], [], [], [(!Tk.fits e u, true)]⟩)
theorem new2_1 (e : Int) (u : Int) (ν : Key → Nat) : ((newC e u).run host2 new2_n ν).map Prod.fst = some (new2_o e u ν) := by kernel_rfl
theorem new2_2 (e : Int) (u : Int) (ν : Key → Nat) : ((newC e u).run host2 new2_n ν).map lefts = ((newC e u).run host2 new2_n ν).map rights := by kernel_rfl
end Go.Proofs.YthglajoihlaldaaDoor
