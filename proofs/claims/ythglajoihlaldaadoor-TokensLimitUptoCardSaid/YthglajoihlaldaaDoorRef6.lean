/- The document's answer for token buckets: what its functions give, as contracts. -/
import Derived.Test.YthglajoihlaldaaDoorTokF
namespace Go.Proofs.YthglajoihlaldaaDoor
open Go Sy
set_option maxRecDepth 100000
def greaterC (a b : Int) : Case := { f := 29, args := #[.int .i64 a, .int .i64 b] }
def rfitsC (e u : Int) : Case := { f := 19, args := #[.int .i64 e, .int .i64 u] }
def rrightC (k a n : Int) : Case := { f := 20, args := #[.agg #[.int .u8 k, .int .i64 a, .int .i64 n]] }
def greater1_n : Notes := { tr := [3], tb := [], todo := [], keep := [], big := [], unroll := [], gcs := [] }
def greater1_o (a : Int) (b : Int) (ν : Key → Nat) : Value × Sy.Left := (.int .i64 a, ⟨[], [], [], [], [(decide (a > b), true)]⟩)
theorem greater1_1 (a : Int) (b : Int) (ν : Key → Nat) : ((greaterC a b).run host greater1_n ν).map Prod.fst = some (greater1_o a b ν) := by kernel_rfl
theorem greater1_2 (a : Int) (b : Int) (ν : Key → Nat) : ((greaterC a b).run host greater1_n ν).map lefts = ((greaterC a b).run host greater1_n ν).map rights := by kernel_rfl
def greater2_n : Notes := { tr := [2], tb := [], todo := [], keep := [], big := [], unroll := [], gcs := [] }
def greater2_o (a : Int) (b : Int) (ν : Key → Nat) : Value × Sy.Left := (.int .i64 b, ⟨[], [], [], [], [(decide (a > b), false)]⟩)
theorem greater2_1 (a : Int) (b : Int) (ν : Key → Nat) : ((greaterC a b).run host greater2_n ν).map Prod.fst = some (greater2_o a b ν) := by kernel_rfl
theorem greater2_2 (a : Int) (b : Int) (ν : Key → Nat) : ((greaterC a b).run host greater2_n ν).map lefts = ((greaterC a b).run host greater2_n ν).map rights := by kernel_rfl
def rfits1_n : Notes := { tr := [2, 2, 2, 0, 0, 0, 0, 0, 0], tb := [], todo := [], keep := [], big := [], unroll := [], gcs := [] }
def rfits1_o (e : Int) (u : Int) (ν : Key → Nat) : Value × Sy.Left := (.bool false, ⟨[], [], [], [], [(decide (e ≥ 1), false), (decide (e ≥ 1), false), (decide (e ≥ 1), false)]⟩)
theorem rfits1_1 (e : Int) (u : Int) (ν : Key → Nat) : ((rfitsC e u).run host rfits1_n ν).map Prod.fst = some (rfits1_o e u ν) := by kernel_rfl
theorem rfits1_2 (e : Int) (u : Int) (ν : Key → Nat) : ((rfitsC e u).run host rfits1_n ν).map lefts = ((rfitsC e u).run host rfits1_n ν).map rights := by kernel_rfl
def rfits2_n : Notes := { tr := [3, 3, 3, 2, 2, 2, 0, 0, 0], tb := [], todo := [], keep := [], big := [], unroll := [], gcs := [] }
def rfits2_o (e : Int) (u : Int) (ν : Key → Nat) : Value × Sy.Left := (.bool false, ⟨[], [], [], [], [(decide (e ≤ 1099511627776), false), (decide (e ≤ 1099511627776), false), (decide (e ≤ 1099511627776), false), (decide (e ≥ 1), true), (decide (e ≥ 1), true), (decide (e ≥ 1), true)]⟩)
theorem rfits2_1 (e : Int) (u : Int) (ν : Key → Nat) : ((rfitsC e u).run host rfits2_n ν).map Prod.fst = some (rfits2_o e u ν) := by kernel_rfl
theorem rfits2_2 (e : Int) (u : Int) (ν : Key → Nat) : ((rfitsC e u).run host rfits2_n ν).map lefts = ((rfitsC e u).run host rfits2_n ν).map rights := by kernel_rfl
def rfits3_n : Notes := { tr := [3, 3, 3, 3, 3, 3, 2, 2, 2], tb := [], todo := [], keep := [], big := [], unroll := [], gcs := [] }
def rfits3_o (e : Int) (u : Int) (ν : Key → Nat) : Value × Sy.Left := (.bool false, ⟨[], [], [], [], [(decide (u ≥ 1), false), (decide (u ≥ 1), false), (decide (u ≥ 1), false), (decide (e ≤ 1099511627776), true), (decide (e ≤ 1099511627776), true), (decide (e ≤ 1099511627776), true), (decide (e ≥ 1), true), (decide (e ≥ 1), true), (decide (e ≥ 1), true)]⟩)
theorem rfits3_1 (e : Int) (u : Int) (ν : Key → Nat) : ((rfitsC e u).run host rfits3_n ν).map Prod.fst = some (rfits3_o e u ν) := by kernel_rfl
theorem rfits3_2 (e : Int) (u : Int) (ν : Key → Nat) : ((rfitsC e u).run host rfits3_n ν).map lefts = ((rfitsC e u).run host rfits3_n ν).map rights := by kernel_rfl
def rfits4_n : Notes := { tr := [3, 3, 3, 3, 3, 3, 3, 3, 3], tb := [], todo := [], keep := [], big := [], unroll := [], gcs := [] }
def rfits4_o (e : Int) (u : Int) (ν : Key → Nat) : Value × Sy.Left := (.bool (decide (u ≤ 1048576)), ⟨[], [], [], [], [(decide (u ≥ 1), true), (decide (u ≥ 1), true), (decide (u ≥ 1), true), (decide (e ≤ 1099511627776), true), (decide (e ≤ 1099511627776), true), (decide (e ≤ 1099511627776), true), (decide (e ≥ 1), true), (decide (e ≥ 1), true), (decide (e ≥ 1), true)]⟩)
theorem rfits4_1 (e : Int) (u : Int) (ν : Key → Nat) : ((rfitsC e u).run host rfits4_n ν).map Prod.fst = some (rfits4_o e u ν) := by kernel_rfl
theorem rfits4_2 (e : Int) (u : Int) (ν : Key → Nat) : ((rfitsC e u).run host rfits4_n ν).map lefts = ((rfitsC e u).run host rfits4_n ν).map rights := by kernel_rfl
def rright1_n : Notes := { tr := [1, 3, 3, 3, 3, 1], tb := [], todo := [], keep := [], big := [], unroll := [], gcs := [([3], [false, false, false], [false])] }
def rright1_o (k : Int) (a : Int) (n : Int) (ν : Key → Nat) : Value × Sy.Left := (.bool false, ⟨[], [], [], [], [(decide (a < 0), true), (decide (a < 0), true), (decide (a < 0), true), (decide (a < 0), true)]⟩)
theorem rright1_1 (k : Int) (a : Int) (n : Int) (ν : Key → Nat) : ((rrightC k a n).run host rright1_n ν).map Prod.fst = some (rright1_o k a n ν) := by kernel_rfl
theorem rright1_2 (k : Int) (a : Int) (n : Int) (ν : Key → Nat) : ((rrightC k a n).run host rright1_n ν).map lefts = ((rrightC k a n).run host rright1_n ν).map rights := by kernel_rfl
def rright2_n : Notes := { tr := [1, 2, 2, 1, 2, 2, 3], tb := [], todo := [], keep := [], big := [], unroll := [], gcs := [([3], [false, false, false], [false])] }
def rright2_o (k : Int) (a : Int) (n : Int) (ν : Key → Nat) : Value × Sy.Left := (.bool false, ⟨[], [], [], [], [(decide (a > 2305843009213693952), true), (decide (a < 0), false), (decide (a < 0), false), (decide (a < 0), false), (decide (a < 0), false)]⟩)
theorem rright2_1 (k : Int) (a : Int) (n : Int) (ν : Key → Nat) : ((rrightC k a n).run host rright2_n ν).map Prod.fst = some (rright2_o k a n ν) := by kernel_rfl
theorem rright2_2 (k : Int) (a : Int) (n : Int) (ν : Key → Nat) : ((rrightC k a n).run host rright2_n ν).map lefts = ((rrightC k a n).run host rright2_n ν).map rights := by kernel_rfl
def rright3_n : Notes := { tr := [1, 2, 2, 1, 2, 2, 2, 0, 3, 2, 2, 2, 2, 2], tb := [], todo := [], keep := [], big := [], unroll := [], gcs := [([3], [false, false, false], [false])] }
def rright3_o (k : Int) (a : Int) (n : Int) (ν : Key → Nat) : Value × Sy.Left := (.bool false, ⟨[], [], [], [], [(decide (n ≥ 1), false), (decide (n ≥ 1), false), (decide (n ≥ 1), false), (decide (n ≥ 1), false), (k == 1, true), (decide (a > 2305843009213693952), false), (decide (a < 0), false), (decide (a < 0), false), (decide (a < 0), false), (decide (a < 0), false)]⟩)
theorem rright3_1 (k : Int) (a : Int) (n : Int) (ν : Key → Nat) : ((rrightC k a n).run host rright3_n ν).map Prod.fst = some (rright3_o k a n ν) := by kernel_rfl
theorem rright3_2 (k : Int) (a : Int) (n : Int) (ν : Key → Nat) : ((rrightC k a n).run host rright3_n ν).map lefts = ((rrightC k a n).run host rright3_n ν).map rights := by kernel_rfl
def rright4_n : Notes := { tr := [1, 2, 2, 1, 2, 2, 2, 0, 3, 2, 3, 3, 2, 3, 3], tb := [], todo := [], keep := [], big := [], unroll := [], gcs := [([3], [false, false, false], [false])] }
def rright4_o (k : Int) (a : Int) (n : Int) (ν : Key → Nat) : Value × Sy.Left := (.bool (decide (n ≤ 1048576)), ⟨[], [], [], [], [(decide (n ≥ 1), true), (decide (n ≥ 1), true), (decide (n ≥ 1), true), (decide (n ≥ 1), true), (k == 1, true), (decide (a > 2305843009213693952), false), (decide (a < 0), false), (decide (a < 0), false), (decide (a < 0), false), (decide (a < 0), false)]⟩)
theorem rright4_1 (k : Int) (a : Int) (n : Int) (ν : Key → Nat) : ((rrightC k a n).run host rright4_n ν).map Prod.fst = some (rright4_o k a n ν) := by kernel_rfl
theorem rright4_2 (k : Int) (a : Int) (n : Int) (ν : Key → Nat) : ((rrightC k a n).run host rright4_n ν).map lefts = ((rrightC k a n).run host rright4_n ν).map rights := by kernel_rfl
def rright5_n : Notes := { tr := [1, 2, 2, 1, 2, 2, 2, 0, 2, 3, 2], tb := [], todo := [], keep := [], big := [], unroll := [], gcs := [([3], [false, false, false], [false])] }
def rright5_o (k : Int) (a : Int) (n : Int) (ν : Key → Nat) : Value × Sy.Left := (.bool (n == 0), ⟨[], [], [], [], [(k == 2, true), (k == 1, false), (decide (a > 2305843009213693952), false), (decide (a < 0), false), (decide (a < 0), false), (decide (a < 0), false), (decide (a < 0), false)]⟩)
theorem rright5_1 (k : Int) (a : Int) (n : Int) (ν : Key → Nat) : ((rrightC k a n).run host rright5_n ν).map Prod.fst = some (rright5_o k a n ν) := by kernel_rfl
theorem rright5_2 (k : Int) (a : Int) (n : Int) (ν : Key → Nat) : ((rrightC k a n).run host rright5_n ν).map lefts = ((rrightC k a n).run host rright5_n ν).map rights := by kernel_rfl
def rright6_n : Notes := { tr := [1, 2, 2, 1, 2, 2, 2, 0, 2, 2], tb := [], todo := [], keep := [], big := [], unroll := [], gcs := [([3], [false, false, false], [false])] }
def rright6_o (k : Int) (a : Int) (n : Int) (ν : Key → Nat) : Value × Sy.Left := (.bool false, ⟨[], [], [], [], [(k == 2, false), (k == 1, false), (decide (a > 2305843009213693952), false), (decide (a < 0), false), (decide (a < 0), false), (decide (a < 0), false), (decide (a < 0), false)]⟩)
theorem rright6_1 (k : Int) (a : Int) (n : Int) (ν : Key → Nat) : ((rrightC k a n).run host rright6_n ν).map Prod.fst = some (rright6_o k a n ν) := by kernel_rfl
theorem rright6_2 (k : Int) (a : Int) (n : Int) (ν : Key → Nat) : ((rrightC k a n).run host rright6_n ν).map lefts = ((rrightC k a n).run host rright6_n ν).map rights := by kernel_rfl
def greaterP (args : Array Value) : CP := match args.toList with
  | [.int .i64 a, .int .i64 b] => .done 0 fun _ => { res := .int .i64 (max a b) }
  | _ => .fail
theorem greater_ok : (⟨29, greaterP⟩ : Contract).Ok Tryd.prog := con_start fun args w => by
  unfold greaterP
  split
  · rename_i a b hargs
    obtain rfl := args_of hargs
    refine good_done fun hl => ?_
    by_cases h : a > b
    · exact good_walk host greater1_n (c := greaterC a b) (greater1_1 a b) (greater1_2 a b) (by simp [greater1_o, h]) rfl hl fun ν => ⟨[], rfl, rfl, by simp [greater1_o] <;> omega, .same _, rfl, rfl⟩
    · exact good_walk host greater2_n (c := greaterC a b) (greater2_1 a b) (greater2_2 a b) (by simp [greater2_o] <;> omega) rfl hl fun ν => ⟨[], rfl, rfl, by simp [greater2_o] <;> omega, .same _, rfl, rfl⟩
  · exact good_fail
theorem rfits_ok : (⟨19, fitsP⟩ : Contract).Ok Tryd.prog := con_start fun args w => by
  unfold fitsP
  split
  · rename_i e u hargs
    obtain rfl := args_of hargs
    refine good_done fun hl => ?_
    by_cases h1 : 1 ≤ e
    · by_cases h2 : e ≤ 1099511627776
      · by_cases h3 : 1 ≤ u
        · exact good_walk host rfits4_n (c := rfitsC e u) (rfits4_1 e u) (rfits4_2 e u) (by simp [rfits4_o, h1, h2, h3]) rfl hl fun ν => ⟨[], rfl, rfl, by simp [rfits4_o, Tk.fits, h1, h2, h3], .same _, rfl, rfl⟩
        · exact good_walk host rfits3_n (c := rfitsC e u) (rfits3_1 e u) (rfits3_2 e u) (by simp [rfits3_o, h1, h2] <;> omega) rfl hl fun ν => ⟨[], rfl, rfl, by simp [rfits3_o, Tk.fits, h1, h2, h3], .same _, rfl, rfl⟩
      · exact good_walk host rfits2_n (c := rfitsC e u) (rfits2_1 e u) (rfits2_2 e u) (by simp [rfits2_o, h1] <;> omega) rfl hl fun ν => ⟨[], rfl, rfl, by simp [rfits2_o, Tk.fits, h1, h2], .same _, rfl, rfl⟩
    · exact good_walk host rfits1_n (c := rfitsC e u) (rfits1_1 e u) (rfits1_2 e u) (by simp [rfits1_o] <;> omega) rfl hl fun ν => ⟨[], rfl, rfl, by simp [rfits1_o, Tk.fits, h1], .same _, rfl, rfl⟩
  · exact good_fail
theorem rright_ok : (⟨20, rightP⟩ : Contract).Ok Tryd.prog := con_start fun args w => by
  unfold rightP
  split
  · rename_i k a n hargs
    obtain rfl := args_of hargs
    refine good_done fun hl => ?_
    by_cases h1 : 0 ≤ a
    · by_cases h2 : a ≤ 2305843009213693952
      · by_cases h3 : k = 1
        · subst h3
          by_cases h4 : 1 ≤ n
          · exact good_walk host rright4_n (c := rrightC 1 a n) (rright4_1 1 a n) (rright4_2 1 a n) (by simp [rright4_o] <;> omega) rfl hl fun ν => ⟨[], rfl, rfl, by simp [rright4_o, Tk.right, h1, h2, h4], .same _, rfl, rfl⟩
          · exact good_walk host rright3_n (c := rrightC 1 a n) (rright3_1 1 a n) (rright3_2 1 a n) (by simp [rright3_o] <;> omega) rfl hl fun ν => ⟨[], rfl, rfl, by simp [rright3_o, Tk.right, h1, h2, h4], .same _, rfl, rfl⟩
        · by_cases h4 : k = 2
          · subst h4
            exact good_walk host rright5_n (c := rrightC 2 a n) (rright5_1 2 a n) (rright5_2 2 a n) (by simp [rright5_o] <;> omega) rfl hl fun ν => ⟨[], rfl, rfl, by simp [rright5_o, Tk.right, h1, h2]; rfl, .same _, rfl, rfl⟩
          · exact good_walk host rright6_n (c := rrightC k a n) (rright6_1 k a n) (rright6_2 k a n) (by simp [rright6_o] <;> omega) rfl hl fun ν => ⟨[], rfl, rfl, by simp [rright6_o, Tk.right, h3, h4], .same _, rfl, rfl⟩
      · exact good_walk host rright2_n (c := rrightC k a n) (rright2_1 k a n) (rright2_2 k a n) (by simp [rright2_o] <;> omega) rfl hl fun ν => ⟨[], rfl, rfl, by simp [rright2_o, Tk.right, h2], .same _, rfl, rfl⟩
    · exact good_walk host rright1_n (c := rrightC k a n) (rright1_1 k a n) (rright1_2 k a n) (by simp [rright1_o] <;> omega) rfl hl fun ν => ⟨[], rfl, rfl, by simp [rright1_o, Tk.right, h1], .same _, rfl, rfl⟩
  · exact good_fail
def consR1 : List Contract := [⟨29, greaterP⟩]
theorem consR1_ok : ∀ c ∈ consR1, c.Ok Tryd.prog := con_ok greater_ok con_nil
noncomputable def hostR1 : Host Tryd.prog := hostOf _ consR1_ok
/-! ### Left -/
def rleftC (e u t a : Int) : Case := { f := 30, args := #[.int .i64 e, .int .i64 u, .int .i64 t, .int .i64 a] }
def rleft1_n : Notes := { tr := [3], tb := [], todo := [], keep := [], big := [], unroll := [], gcs := [] }
def rleft1_o (e : Int) (u : Int) (t : Int) (a : Int) (ν : Key → Nat) : Value × Sy.Left := (.int .i64 0, ⟨[], [], [], [], [(decide (IntKind.wrap .i64 (IntKind.wrap .i64 (a + IntKind.wrap .i64 (u * e)) - max t a) < 0), true)]⟩)
theorem rleft1_1 (e : Int) (u : Int) (t : Int) (a : Int) (ν : Key → Nat) : ((rleftC e u t a).run hostR1 rleft1_n ν).map Prod.fst = some (rleft1_o e u t a ν) := by kernel_rfl
theorem rleft1_2 (e : Int) (u : Int) (t : Int) (a : Int) (ν : Key → Nat) : ((rleftC e u t a).run hostR1 rleft1_n ν).map lefts = ((rleftC e u t a).run hostR1 rleft1_n ν).map rights := by kernel_rfl
def rleft2_n : Notes := { tr := [2, 2], tb := [], todo := [], keep := [], big := [], unroll := [], gcs := [] }
def rleft2_o (e : Int) (u : Int) (t : Int) (a : Int) (ν : Key → Nat) : Value × Sy.Left := (.int .i64 (IntKind.wrap .i64 (Int.tdiv (IntKind.wrap .i64 (IntKind.wrap .i64 (a + IntKind.wrap .i64 (u * e)) - max t a)) e)), ⟨[], [], [], [], [(e == 0, false), (decide (IntKind.wrap .i64 (IntKind.wrap .i64 (a + IntKind.wrap .i64 (u * e)) - max t a) < 0), false)]⟩)
theorem rleft2_1 (e : Int) (u : Int) (t : Int) (a : Int) (ν : Key → Nat) : ((rleftC e u t a).run hostR1 rleft2_n ν).map Prod.fst = some (rleft2_o e u t a ν) := by kernel_rfl
theorem rleft2_2 (e : Int) (u : Int) (t : Int) (a : Int) (ν : Key → Nat) : ((rleftC e u t a).run hostR1 rleft2_n ν).map lefts = ((rleftC e u t a).run hostR1 rleft2_n ν).map rights := by kernel_rfl
def leftP (args : Array Value) : CP := match args.toList with
  | [.int .i64 e, .int .i64 u, .int .i64 t, .int .i64 a] => needs (Tk.fits e u && Tk.inT t && Tk.right 2 a 0) <| .done 0 fun _ => { res := .int .i64 (Tk.leftOf e u t a) }
  | _ => .fail
theorem left_ok : (⟨30, leftP⟩ : Contract).Ok Tryd.prog := con_start fun args w => by
  unfold leftP
  split
  · rename_i e u t a hargs
    obtain rfl := args_of hargs
    refine good_needs fun hn => good_done fun hl => ?_
    simp only [Bool.and_eq_true] at hn
    obtain ⟨⟨h1, h2⟩, h3⟩ := hn
    have F := Tk.fine h1 h2 h3
    by_cases h : Tk.stop e u a - max t a < 0
    · have e0 : Tk.leftOf e u t a = 0 := by
        unfold Tk.leftOf
        rw [show max (Tk.stop e u a - max t a) 0 = 0 by omega]
        exact Int.zero_ediv _
      exact good_walk hostR1 rleft1_n (c := rleftC e u t a) (rleft1_1 e u t a) (rleft1_2 e u t a) (by simp [rleft1_o, F.wue, F.wstop, F.wroom] <;> omega) rfl hl fun ν => ⟨[], rfl, rfl, by simp [rleft1_o, e0], .same _, rfl, rfl⟩
    · have e0 : IntKind.i64.wrap (Int.tdiv (Tk.stop e u a - max t a) e) = Tk.leftOf e u t a := by
        have := F.wleft
        rw [if_neg (by omega)] at this
        exact this
      have he : e ≠ 0 := by have := F.e1; omega
      exact good_walk hostR1 rleft2_n (c := rleftC e u t a) (rleft2_1 e u t a) (rleft2_2 e u t a) (by simp [rleft2_o, F.wue, F.wstop, F.wroom] <;> omega) rfl hl fun ν => ⟨[], rfl, rfl, by simp [rleft2_o, F.wue, F.wstop, F.wroom, e0], .same _, rfl, rfl⟩
  · exact good_fail
def consR2 : List Contract := ⟨30, leftP⟩ :: consR1
theorem consR2_ok : ∀ c ∈ consR2, c.Ok Tryd.prog := con_ok left_ok consR1_ok
noncomputable def hostR2 : Host Tryd.prog := hostOf _ consR2_ok
/-! ### Step -/
def underV (k a n : Int) (put : Bool) (saw : Int) (over ok : Bool) (wait left : Int) : Value := .agg #[.int .u8 k, .int .i64 a, .int .i64 n, .bool put, .int .i64 saw, .bool over, .bool ok, .int .i64 wait, .int .i64 left]
def rstepC (k a n : Int) (put : Bool) (saw e u t : Int) : Case := { f := 21, args := #[.int .i64 e, .int .i64 u, .int .i64 t, underV k a n put saw false false 0 0] }
def rstepP1_n : Notes := { tr := [18, 15, 16, 17, 3, 0, 1, 2, 3, 4, 22, 23, 3, 4, 3, 24, 25, 26, 27, 19, 20, 21, 22, 23, 24, 25, 26, 27, 0, 1, 2, 3, 4, 10, 11, 12, 13, 14, 15, 16, 17, 18, 5, 6, 7, 8, 9, 10, 11, 12, 13, 14, 15, 16, 17, 18, 5, 6, 7, 8, 9], tb := [([28, 10], [false, false, false, false, false, true, true, true, true, true, true, true, true, true, true, true, true, true, true, false, false, false, false, false, false, false, false, false], .take 0 (.take 1 (.take 2 (.take 3 (.alt 4 (.alt 5 (.done) (.stop)) (.stop)))))), ([23, 1], [false, false, false, false, false, false, false, false, false, false, false, false, false, false, false, false, false, false, false, false, false, false, false], .take 0 (.take 1 (.take 2 (.take 3 (.take 4 (.take 6 (.take 7 (.take 8 (.take 9 (.take 10 (.alt 5 (.take 11 (.take 12 (.done))) (.stop))))))))))))], todo := [], keep := [], big := [], unroll := [], gcs := [([28], [false, false, false, false, false, false, false, false, false, false, false, false, false, false, false, false, false, false, false, false, false, false, false, false, false, false, false, false], [false, false, false, false])] }
def rstepP1_o (k : Int) (a : Int) (n : Int) (put : Bool) (saw : Int) (e : Int) (u : Int) (t : Int) (ν : Key → Nat) : Value × Sy.Left := (.tuple #[.int .i64 (IntKind.wrap .i64 (max saw a + IntKind.wrap .i64 (n * e))), .agg #[.int .u8 k, .int .i64 a, .int .i64 n, .bool false, .int .i64 saw, .bool true, .bool true, .int .i64 0, .int .i64 0], .agg #[.int .u8 5, .int .i64 0, .int .u64 (IntKind.wrap .u64 t), .int .u64 (IntKind.wrap .u64 (IntKind.wrap .i64 (max saw a + IntKind.wrap .i64 (n * e)))), .bool true]], ⟨[], [], [], [], [(t == saw, true), (put, true)]⟩)
theorem rstepP1_1 (k : Int) (a : Int) (n : Int) (put : Bool) (saw : Int) (e : Int) (u : Int) (t : Int) (ν : Key → Nat) : ((rstepC k a n put saw e u t).run hostR2 rstepP1_n ν).map Prod.fst = some (rstepP1_o k a n put saw e u t ν) := by kernel_rfl
theorem rstepP1_2 (k : Int) (a : Int) (n : Int) (put : Bool) (saw : Int) (e : Int) (u : Int) (t : Int) (ν : Key → Nat) : ((rstepC k a n put saw e u t).run hostR2 rstepP1_n ν).map lefts = ((rstepC k a n put saw e u t).run hostR2 rstepP1_n ν).map rights := by kernel_rfl
def rstepP2_n : Notes := { tr := [18, 15, 16, 17, 3, 0, 1, 2, 3, 4, 22, 23, 2, 19, 20, 21, 22, 23, 24, 25, 26, 27, 0, 1, 2, 3, 4, 10, 11, 12, 13, 14, 15, 16, 17, 18, 5, 6, 7, 8, 9, 10, 11, 12, 13, 14, 15, 16, 17, 18, 5, 6, 7, 8, 9], tb := [([28, 6], [false, false, false, false, false, true, true, true, true, true, true, true, true, true, true, true, true, true, true, false, false, false, false, false, false, false, false, false], .take 0 (.take 1 (.take 2 (.take 3 (.alt 4 (.alt 5 (.done) (.stop)) (.stop)))))), ([23, 1], [false, false, false, false, false, false, false, false, false, false, false, false, false, false, false, false, false, false, false, false, false, false, false], .take 0 (.take 1 (.take 2 (.take 3 (.take 4 (.take 6 (.take 7 (.take 8 (.take 9 (.take 10 (.alt 5 (.take 11 (.take 12 (.done))) (.stop))))))))))))], todo := [], keep := [], big := [], unroll := [], gcs := [([28], [false, false, false, false, false, false, false, false, false, false, false, false, false, false, false, false, false, false, false, false, false, false, false, false, false, false, false, false], [false, false, false, false])] }
def rstepP2_o (k : Int) (a : Int) (n : Int) (put : Bool) (saw : Int) (e : Int) (u : Int) (t : Int) (ν : Key → Nat) : Value × Sy.Left := (.tuple #[.int .i64 t, .agg #[.int .u8 k, .int .i64 a, .int .i64 n, .bool false, .int .i64 saw, .bool false, .bool false, .int .i64 0, .int .i64 0], .agg #[.int .u8 5, .int .i64 0, .int .u64 (IntKind.wrap .u64 t), .int .u64 (IntKind.wrap .u64 t), .bool false]], ⟨[], [], [], [], [(t == saw, false), (put, true)]⟩)
theorem rstepP2_1 (k : Int) (a : Int) (n : Int) (put : Bool) (saw : Int) (e : Int) (u : Int) (t : Int) (ν : Key → Nat) : ((rstepC k a n put saw e u t).run hostR2 rstepP2_n ν).map Prod.fst = some (rstepP2_o k a n put saw e u t ν) := by kernel_rfl
theorem rstepP2_2 (k : Int) (a : Int) (n : Int) (put : Bool) (saw : Int) (e : Int) (u : Int) (t : Int) (ν : Key → Nat) : ((rstepC k a n put saw e u t).run hostR2 rstepP2_n ν).map lefts = ((rstepC k a n put saw e u t).run hostR2 rstepP2_n ν).map rights := by kernel_rfl
def rstepK1_n : Notes := { tr := [18, 15, 16, 17, 2, 0, 1, 2, 3, 4, 23, 19, 3, 24, 20, 3, 25, 26, 27, 19, 20, 21, 22, 23, 24, 25, 26, 27, 0, 1, 2, 3, 4, 10, 11, 12, 13, 14, 15, 16, 17, 18, 5, 6, 7, 8, 9, 10, 11, 12, 13, 14, 15, 16, 17, 18, 5, 6, 7, 8, 9], tb := [([28, 8], [false, false, false, false, false, true, true, true, true, true, true, true, true, true, true, true, true, true, true, false, false, false, false, false, false, false, false, false], .take 0 (.take 1 (.take 2 (.take 3 (.alt 4 (.alt 5 (.done) (.stop)) (.stop)))))), ([23, 1], [false, false, false, false, false, false, false, false, false, false, false, false, false, false, false, false, false, false, false, false, false, false, false], .take 0 (.take 1 (.take 2 (.take 3 (.take 4 (.take 6 (.take 7 (.take 8 (.take 9 (.take 10 (.alt 5 (.take 11 (.take 12 (.done))) (.stop))))))))))))], todo := [], keep := [], big := [], unroll := [], gcs := [([28], [false, false, false, false, false, false, false, false, false, false, false, false, false, false, false, false, false, false, false, false, false, false, false, false, false, false, false, false], [false, false, false, false])] }
def rstepK1_o (k : Int) (a : Int) (n : Int) (put : Bool) (saw : Int) (e : Int) (u : Int) (t : Int) (ν : Key → Nat) : Value × Sy.Left := (.tuple #[.int .i64 t, .agg #[.int .u8 k, .int .i64 a, .int .i64 n, .bool put, .int .i64 t, .bool true, .bool false, .int .i64 0, .int .i64 (Tk.leftOf e u t a)], .agg #[.int .u8 1, .int .i64 0, .int .u64 (IntKind.wrap .u64 t), .int .u64 (IntKind.wrap .u64 t), .bool true]], ⟨[], [], [], [], [(Tk.fits e u && Tk.inT t && Tk.right 2 a 0, true), (k == 2, true), (put, false)]⟩)
theorem rstepK1_1 (k : Int) (a : Int) (n : Int) (put : Bool) (saw : Int) (e : Int) (u : Int) (t : Int) (ν : Key → Nat) : ((rstepC k a n put saw e u t).run hostR2 rstepK1_n ν).map Prod.fst = some (rstepK1_o k a n put saw e u t ν) := by kernel_rfl
theorem rstepK1_2 (k : Int) (a : Int) (n : Int) (put : Bool) (saw : Int) (e : Int) (u : Int) (t : Int) (ν : Key → Nat) : ((rstepC k a n put saw e u t).run hostR2 rstepK1_n ν).map lefts = ((rstepC k a n put saw e u t).run hostR2 rstepK1_n ν).map rights := by kernel_rfl
def rstepT1_n : Notes := { tr := [18, 15, 16, 17, 2, 0, 1, 2, 3, 4, 23, 19, 2, 20, 21, 20, 3, 24, 20, 25, 26, 27, 21, 3, 26, 19, 20, 21, 22, 23, 24, 25, 26, 27, 0, 1, 2, 3, 4, 10, 11, 12, 13, 14, 15, 16, 17, 18, 5, 6, 7, 8, 9, 10, 11, 12, 13, 14, 15, 16, 17, 18, 5, 6, 7, 8, 9], tb := [([28, 12], [false, false, false, false, false, true, true, true, true, true, true, true, true, true, true, true, true, true, true, false, false, false, false, false, false, false, false, false], .take 0 (.take 1 (.take 2 (.take 3 (.alt 4 (.alt 5 (.done) (.stop)) (.stop)))))), ([28, 6], [false, false, false, false, false, false, false, false, false, false, false, false, false, false, false, false, false, false, false, false, false, false, false, false, false, false, false, false], .take 0 (.take 1 (.take 2 (.take 3 (.take 5 (.take 6 (.take 7 (.take 8 (.take 9 (.alt 4 (.take 10 (.take 11 (.done))) (.stop))))))))))), ([23, 1], [false, false, false, false, false, false, false, false, false, false, false, false, false, false, false, false, false, false, false, false, false, false, false], .take 0 (.take 1 (.take 2 (.take 3 (.take 4 (.take 6 (.take 7 (.take 8 (.take 9 (.take 10 (.alt 5 (.take 11 (.take 12 (.done))) (.stop))))))))))))], todo := [], keep := [], big := [], unroll := [], gcs := [([28], [false, false, false, false, false, false, false, false, false, false, false, false, false, false, false, false, false, false, false, false, false, false, false, false, false, false, false, false], [false, false, false, false])] }
def rstepT1_o (k : Int) (a : Int) (n : Int) (put : Bool) (saw : Int) (e : Int) (u : Int) (t : Int) (ν : Key → Nat) : Value × Sy.Left := (.tuple #[.int .i64 t, .agg #[.int .u8 k, .int .i64 a, .int .i64 n, .bool put, .int .i64 t, .bool true, .bool false, .int .i64 (-1), .int .i64 0], .agg #[.int .u8 1, .int .i64 0, .int .u64 (IntKind.wrap .u64 t), .int .u64 (IntKind.wrap .u64 t), .bool true]], ⟨[], [], [], [], [(decide (n > u), true), (decide (IntKind.wrap .i64 (max t a + IntKind.wrap .i64 (n * e)) > IntKind.wrap .i64 (a + IntKind.wrap .i64 (u * e))), true), (k == 2, false), (put, false)]⟩)
theorem rstepT1_1 (k : Int) (a : Int) (n : Int) (put : Bool) (saw : Int) (e : Int) (u : Int) (t : Int) (ν : Key → Nat) : ((rstepC k a n put saw e u t).run hostR2 rstepT1_n ν).map Prod.fst = some (rstepT1_o k a n put saw e u t ν) := by kernel_rfl
theorem rstepT1_2 (k : Int) (a : Int) (n : Int) (put : Bool) (saw : Int) (e : Int) (u : Int) (t : Int) (ν : Key → Nat) : ((rstepC k a n put saw e u t).run hostR2 rstepT1_n ν).map lefts = ((rstepC k a n put saw e u t).run hostR2 rstepT1_n ν).map rights := by kernel_rfl
def rstepT2_n : Notes := { tr := [18, 15, 16, 17, 2, 0, 1, 2, 3, 4, 23, 19, 2, 20, 21, 20, 3, 24, 20, 25, 26, 27, 21, 2, 19, 20, 21, 22, 23, 24, 25, 26, 27, 0, 1, 2, 3, 4, 10, 11, 12, 13, 14, 15, 16, 17, 18, 5, 6, 7, 8, 9, 10, 11, 12, 13, 14, 15, 16, 17, 18, 5, 6, 7, 8, 9], tb := [([28, 11], [false, false, false, false, false, true, true, true, true, true, true, true, true, true, true, true, true, true, true, false, false, false, false, false, false, false, false, false], .take 0 (.take 1 (.take 2 (.take 3 (.alt 4 (.alt 5 (.done) (.stop)) (.stop)))))), ([28, 6], [false, false, false, false, false, false, false, false, false, false, false, false, false, false, false, false, false, false, false, false, false, false, false, false, false, false, false, false], .take 0 (.take 1 (.take 2 (.take 3 (.take 5 (.take 6 (.take 7 (.take 8 (.take 9 (.alt 4 (.take 10 (.take 11 (.done))) (.stop))))))))))), ([23, 1], [false, false, false, false, false, false, false, false, false, false, false, false, false, false, false, false, false, false, false, false, false, false, false], .take 0 (.take 1 (.take 2 (.take 3 (.take 4 (.take 6 (.take 7 (.take 8 (.take 9 (.take 10 (.alt 5 (.take 11 (.take 12 (.done))) (.stop))))))))))))], todo := [], keep := [], big := [], unroll := [], gcs := [([28], [false, false, false, false, false, false, false, false, false, false, false, false, false, false, false, false, false, false, false, false, false, false, false, false, false, false, false, false], [false, false, false, false])] }
def rstepT2_o (k : Int) (a : Int) (n : Int) (put : Bool) (saw : Int) (e : Int) (u : Int) (t : Int) (ν : Key → Nat) : Value × Sy.Left := (.tuple #[.int .i64 t, .agg #[.int .u8 k, .int .i64 a, .int .i64 n, .bool put, .int .i64 t, .bool true, .bool false, .int .i64 (IntKind.wrap .i64 (IntKind.wrap .i64 (IntKind.wrap .i64 (max t a + IntKind.wrap .i64 (n * e)) - a) - IntKind.wrap .i64 (u * e))), .int .i64 0], .agg #[.int .u8 1, .int .i64 0, .int .u64 (IntKind.wrap .u64 t), .int .u64 (IntKind.wrap .u64 t), .bool true]], ⟨[], [], [], [], [(decide (n > u), false), (decide (IntKind.wrap .i64 (max t a + IntKind.wrap .i64 (n * e)) > IntKind.wrap .i64 (a + IntKind.wrap .i64 (u * e))), true), (k == 2, false), (put, false)]⟩)
theorem rstepT2_1 (k : Int) (a : Int) (n : Int) (put : Bool) (saw : Int) (e : Int) (u : Int) (t : Int) (ν : Key → Nat) : ((rstepC k a n put saw e u t).run hostR2 rstepT2_n ν).map Prod.fst = some (rstepT2_o k a n put saw e u t ν) := by kernel_rfl
theorem rstepT2_2 (k : Int) (a : Int) (n : Int) (put : Bool) (saw : Int) (e : Int) (u : Int) (t : Int) (ν : Key → Nat) : ((rstepC k a n put saw e u t).run hostR2 rstepT2_n ν).map lefts = ((rstepC k a n put saw e u t).run hostR2 rstepT2_n ν).map rights := by kernel_rfl
def rstepT3_n : Notes := { tr := [18, 15, 16, 17, 2, 0, 1, 2, 3, 4, 23, 19, 2, 20, 21, 20, 2, 22, 19, 20, 21, 22, 23, 24, 25, 26, 27, 0, 1, 2, 3, 4, 10, 11, 12, 13, 14, 15, 16, 17, 18, 5, 6, 7, 8, 9, 10, 11, 12, 13, 14, 15, 16, 17, 18, 5, 6, 7, 8, 9], tb := [([28, 9], [false, false, false, false, false, true, true, true, true, true, true, true, true, true, true, true, true, true, true, false, false, false, false, false, false, false, false, false], .take 0 (.take 1 (.take 2 (.take 3 (.alt 4 (.alt 5 (.done) (.stop)) (.stop)))))), ([28, 6], [false, false, false, false, false, false, false, false, false, false, false, false, false, false, false, false, false, false, false, false, false, false, false, false, false, false, false, false], .take 0 (.take 1 (.take 2 (.take 3 (.take 5 (.take 6 (.take 7 (.take 8 (.take 9 (.alt 4 (.take 10 (.take 11 (.done))) (.stop))))))))))), ([23, 1], [false, false, false, false, false, false, false, false, false, false, false, false, false, false, false, false, false, false, false, false, false, false, false], .take 0 (.take 1 (.take 2 (.take 3 (.take 4 (.take 6 (.take 7 (.take 8 (.take 9 (.take 10 (.alt 5 (.take 11 (.take 12 (.done))) (.stop))))))))))))], todo := [], keep := [], big := [], unroll := [], gcs := [([28], [false, false, false, false, false, false, false, false, false, false, false, false, false, false, false, false, false, false, false, false, false, false, false, false, false, false, false, false], [false, false, false, false])] }
def rstepT3_o (k : Int) (a : Int) (n : Int) (put : Bool) (saw : Int) (e : Int) (u : Int) (t : Int) (ν : Key → Nat) : Value × Sy.Left := (.tuple #[.int .i64 t, .agg #[.int .u8 k, .int .i64 a, .int .i64 n, .bool true, .int .i64 t, .bool false, .bool false, .int .i64 0, .int .i64 0], .agg #[.int .u8 1, .int .i64 0, .int .u64 (IntKind.wrap .u64 t), .int .u64 (IntKind.wrap .u64 t), .bool true]], ⟨[], [], [], [], [(decide (IntKind.wrap .i64 (max t a + IntKind.wrap .i64 (n * e)) > IntKind.wrap .i64 (a + IntKind.wrap .i64 (u * e))), false), (k == 2, false), (put, false)]⟩)
theorem rstepT3_1 (k : Int) (a : Int) (n : Int) (put : Bool) (saw : Int) (e : Int) (u : Int) (t : Int) (ν : Key → Nat) : ((rstepC k a n put saw e u t).run hostR2 rstepT3_n ν).map Prod.fst = some (rstepT3_o k a n put saw e u t ν) := by kernel_rfl
theorem rstepT3_2 (k : Int) (a : Int) (n : Int) (put : Bool) (saw : Int) (e : Int) (u : Int) (t : Int) (ν : Key → Nat) : ((rstepC k a n put saw e u t).run hostR2 rstepT3_n ν).map lefts = ((rstepC k a n put saw e u t).run hostR2 rstepT3_n ν).map rights := by kernel_rfl
def rstepP (args : Array Value) : CP := match args.toList with
  | [.int .i64 e, .int .i64 u, .int .i64 t, .agg ⟨[.int .u8 k, .int .i64 a, .int .i64 n, .bool put, .int .i64 saw, .bool over, .bool ok, .int .i64 wait, .int .i64 left]⟩] =>
    needs (Tk.fits e u && Tk.inT t && Tk.inT saw && Tk.right k a n && !over && !ok && wait == 0 && left == 0) <| .done 0 fun _ => match Tk.step e u t { kind := k, at_ := a, n := n, put := put, saw := saw } with
      | z => { res := .tuple #[.int .i64 z.t, underV k a n z.u.put z.u.saw z.u.over z.u.ok z.u.wait z.u.left, didV z.d.kind 0 z.d.saw z.d.put z.d.ok] }
  | _ => .fail
theorem rstep_ok : (⟨21, rstepP⟩ : Contract).Ok Tryd.prog := con_start fun args w => by
  unfold rstepP
  split
  · rename_i e u t k a n put saw over ok wait left hargs
    obtain rfl := args_of hargs
    refine good_needs fun hn => good_done fun hl => ?_
    simp only [Bool.and_eq_true, Bool.not_eq_true', beq_iff_eq] at hn
    obtain ⟨⟨⟨⟨⟨⟨⟨h1, h2⟩, h3⟩, h4⟩, rfl⟩, rfl⟩, rfl⟩, rfl⟩ := hn
    have F := Tk.fine h1 h2 h4
    have F' := Tk.fine h1 h3 h4
    have ut : IntKind.u64.wrap t = t := wrap_u64 (by have := F.t1; omega) (by have := F.t2; omega)
    cases put
    · by_cases hk : k = 2
      · subst hk
        have hr : Tk.right 2 a 0 = true := by rw [Tk.right_iff] at h4 ⊢; omega
        have ez : Tk.step e u t { kind := 2, at_ := a, n := n, put := false, saw := saw } = ⟨t, { kind := 2, at_ := a, n := n, put := false, saw := t, over := true, left := Tk.leftOf e u t a }, ⟨1, t, t, true⟩⟩ := by simp [Tk.step]
        exact good_walk hostR2 rstepK1_n (c := rstepC 2 a n false saw e u t) (rstepK1_1 2 a n false saw e u t) (rstepK1_2 2 a n false saw e u t) (by simp [rstepK1_o, h1, h2, hr]) rfl hl fun ν => ⟨[], rfl, rfl, by simp [rstepK1_o, ez, underV, didV, ut], .same _, rfl, rfl⟩
      · by_cases hx : Tk.next e t a n > Tk.stop e u a
        · by_cases hu : n > u
          · have ez : Tk.step e u t { kind := k, at_ := a, n := n, put := false, saw := saw } = ⟨t, { kind := k, at_ := a, n := n, put := false, saw := t, over := true, wait := -1 }, ⟨1, t, t, true⟩⟩ := by simp [Tk.step, hk, hx, Tk.waitOf, hu]
            exact good_walk hostR2 rstepT1_n (c := rstepC k a n false saw e u t) (rstepT1_1 k a n false saw e u t) (rstepT1_2 k a n false saw e u t) (by simp [rstepT1_o, F.wne, F.wue, F.wnext, F.wstop, hk] <;> omega) rfl hl fun ν => ⟨[], rfl, rfl, by simp [rstepT1_o, ez, underV, didV, ut], .same _, rfl, rfl⟩
          · have ez : Tk.step e u t { kind := k, at_ := a, n := n, put := false, saw := saw } = ⟨t, { kind := k, at_ := a, n := n, put := false, saw := t, over := true, wait := Tk.next e t a n - Tk.stop e u a }, ⟨1, t, t, true⟩⟩ := by simp [Tk.step, hk, hx, Tk.waitOf, hu]
            have hd : IntKind.i64.wrap (IntKind.i64.wrap (Tk.next e t a n - a) - u * e) = Tk.next e t a n - Tk.stop e u a := by
              have h5 := F.ne; have h6 := F.ue; have h7 := F.t1; have h8 := F.t2; have h9 := F.a1; have h10 := F.a2
              rw [wrap_i64 (x := Tk.next e t a n - a) (by unfold Tk.next; omega) (by unfold Tk.next; omega)]
              unfold Tk.stop
              rw [wrap_i64 (by unfold Tk.next; omega) (by unfold Tk.next; omega)]
              omega
            exact good_walk hostR2 rstepT2_n (c := rstepC k a n false saw e u t) (rstepT2_1 k a n false saw e u t) (rstepT2_2 k a n false saw e u t) (by simp [rstepT2_o, F.wne, F.wue, F.wnext, F.wstop, hk] <;> omega) rfl hl fun ν => ⟨[], rfl, rfl, by simp [rstepT2_o, F.wne, F.wue, F.wnext, hd, ez, underV, didV, ut], .same _, rfl, rfl⟩
        · have ez : Tk.step e u t { kind := k, at_ := a, n := n, put := false, saw := saw } = ⟨t, { kind := k, at_ := a, n := n, put := true, saw := t }, ⟨1, t, t, true⟩⟩ := by simp [Tk.step, hk, hx]
          exact good_walk hostR2 rstepT3_n (c := rstepC k a n false saw e u t) (rstepT3_1 k a n false saw e u t) (rstepT3_2 k a n false saw e u t) (by simp [rstepT3_o, F.wne, F.wue, F.wnext, F.wstop, hk] <;> omega) rfl hl fun ν => ⟨[], rfl, rfl, by simp [rstepT3_o, ez, underV, didV, ut], .same _, rfl, rfl⟩
    · by_cases hh : t = saw
      · subst hh
        have ez : Tk.step e u t { kind := k, at_ := a, n := n, put := true, saw := t } = ⟨Tk.next e t a n, { kind := k, at_ := a, n := n, put := false, saw := t, over := true, ok := true }, ⟨5, t, Tk.next e t a n, true⟩⟩ := by simp [Tk.step]
        exact good_walk hostR2 rstepP1_n (c := rstepC k a n true t e u t) (rstepP1_1 k a n true t e u t) (rstepP1_2 k a n true t e u t) (by simp [rstepP1_o]) rfl hl fun ν => ⟨[], rfl, rfl, by simp [rstepP1_o, F.wne, F.wnext, F.unext, ez, underV, didV, ut], .same _, rfl, rfl⟩
      · have ez : Tk.step e u t { kind := k, at_ := a, n := n, put := true, saw := saw } = ⟨t, { kind := k, at_ := a, n := n, put := false, saw := saw }, ⟨5, t, t, false⟩⟩ := by simp [Tk.step, hh]
        exact good_walk hostR2 rstepP2_n (c := rstepC k a n true saw e u t) (rstepP2_1 k a n true saw e u t) (rstepP2_2 k a n true saw e u t) (by simp [rstepP2_o, hh]) rfl hl fun ν => ⟨[], rfl, rfl, by simp [rstepP2_o, ez, underV, didV, ut], .same _, rfl, rfl⟩
  · exact good_fail
def consR3 : List Contract := ⟨21, rstepP⟩ :: ⟨19, fitsP⟩ :: ⟨20, rightP⟩ :: []
theorem consR3_ok : ∀ c ∈ consR3, c.Ok Tryd.prog := con_ok rstep_ok (con_ok rfits_ok (con_ok rright_ok con_nil))
noncomputable def hostR3 : Host Tryd.prog := hostOf _ consR3_ok
/-! ### Whole -/
theorem inT0 : Tk.inT 0 = true := by rfl
def wholeC (e u t k a n : Int) : Case := { f := 23, args := #[.int .i64 e, .int .i64 u, .int .i64 t, .agg #[.int .u8 k, .int .i64 a, .int .i64 n]] }
def whole1_n : Notes := { tr := [3, 4, 5, 0, 1, 2, 3, 4, 5, 6, 7, 8, 5, 1, 0, 1, 2, 3, 4, 5, 6, 7, 8, 3, 0, 1, 2, 3, 4, 5, 6, 7, 8, 5, 2, 6, 7, 8, 9, 10, 11, 9, 10, 11], tb := [([15, 5], [false, false, false, false, false, false, false, false, false, true, true, true, false, false, false], .take 0 (.take 1 (.take 2 (.take 3 (.alt 4 (.done) (.stop))))))], todo := [], keep := [], big := [], unroll := [], gcs := [([15], [false, false, false, false, false, false, false, false, false, false, false, false, false, false, false], [false, false, false])] }
def whole1_o (e : Int) (u : Int) (t : Int) (k : Int) (a : Int) (n : Int) (ν : Key → Nat) : Value × Sy.Left := (.tuple #[.int .i64 (Tk.Out.t (Tk.step e u t { kind := k, at_ := a, n := n })), .agg #[.bool (Tk.TU.ok (Tk.Out.u (Tk.step e u t { kind := k, at_ := a, n := n }))), .int .i64 (Tk.TU.wait (Tk.Out.u (Tk.step e u t { kind := k, at_ := a, n := n }))), .int .i64 (Tk.TU.left (Tk.Out.u (Tk.step e u t { kind := k, at_ := a, n := n })))]], ⟨[], [], [], [], [(!Tk.TU.over (Tk.Out.u (Tk.step e u t { kind := k, at_ := a, n := n })), false), (Tk.fits e u && Tk.inT t && Tk.inT 0 && Tk.right k a n && !false && !false && 0 == 0 && 0 == 0, true)]⟩)
theorem whole1_1 (e : Int) (u : Int) (t : Int) (k : Int) (a : Int) (n : Int) (ν : Key → Nat) : ((wholeC e u t k a n).run hostR3 whole1_n ν).map Prod.fst = some (whole1_o e u t k a n ν) := by kernel_rfl
theorem whole1_2 (e : Int) (u : Int) (t : Int) (k : Int) (a : Int) (n : Int) (ν : Key → Nat) : ((wholeC e u t k a n).run hostR3 whole1_n ν).map lefts = ((wholeC e u t k a n).run hostR3 whole1_n ν).map rights := by kernel_rfl
def whole2_n : Notes := { tr := [3, 4, 5, 0, 1, 2, 3, 4, 5, 6, 7, 8, 5, 1, 0, 1, 2, 3, 4, 5, 6, 7, 8, 3, 0, 1, 2, 3, 4, 5, 6, 7, 8, 5, 3, 0, 1, 2, 3, 4, 5, 6, 7, 8, 3, 0, 1, 2, 3, 4, 5, 6, 7, 8, 5, 2, 6, 7, 8, 9, 10, 11, 9, 10, 11], tb := [([15, 7], [false, false, false, false, false, false, false, false, false, true, true, true, false, false, false], .take 0 (.take 1 (.take 2 (.take 3 (.alt 4 (.done) (.stop))))))], todo := [], keep := [], big := [], unroll := [], gcs := [([15], [false, false, false, false, false, false, false, false, false, false, false, false, false, false, false], [false, false, false])] }
def whole2_o (e : Int) (u : Int) (t : Int) (k : Int) (a : Int) (n : Int) (ν : Key → Nat) : Value × Sy.Left := (.tuple #[.int .i64 (Tk.Out.t (Tk.step e u (Tk.Out.t (Tk.step e u t { kind := k, at_ := a, n := n })) { kind := k, at_ := a, n := n, put := Tk.TU.put (Tk.Out.u (Tk.step e u t { kind := k, at_ := a, n := n })), saw := Tk.TU.saw (Tk.Out.u (Tk.step e u t { kind := k, at_ := a, n := n })) })), .agg #[.bool (Tk.TU.ok (Tk.Out.u (Tk.step e u (Tk.Out.t (Tk.step e u t { kind := k, at_ := a, n := n })) { kind := k, at_ := a, n := n, put := Tk.TU.put (Tk.Out.u (Tk.step e u t { kind := k, at_ := a, n := n })), saw := Tk.TU.saw (Tk.Out.u (Tk.step e u t { kind := k, at_ := a, n := n })) }))), .int .i64 (Tk.TU.wait (Tk.Out.u (Tk.step e u (Tk.Out.t (Tk.step e u t { kind := k, at_ := a, n := n })) { kind := k, at_ := a, n := n, put := Tk.TU.put (Tk.Out.u (Tk.step e u t { kind := k, at_ := a, n := n })), saw := Tk.TU.saw (Tk.Out.u (Tk.step e u t { kind := k, at_ := a, n := n })) }))), .int .i64 (Tk.TU.left (Tk.Out.u (Tk.step e u (Tk.Out.t (Tk.step e u t { kind := k, at_ := a, n := n })) { kind := k, at_ := a, n := n, put := Tk.TU.put (Tk.Out.u (Tk.step e u t { kind := k, at_ := a, n := n })), saw := Tk.TU.saw (Tk.Out.u (Tk.step e u t { kind := k, at_ := a, n := n })) })))]], ⟨[], [], [], [], [(!Tk.TU.over (Tk.Out.u (Tk.step e u (Tk.Out.t (Tk.step e u t { kind := k, at_ := a, n := n })) { kind := k, at_ := a, n := n, put := Tk.TU.put (Tk.Out.u (Tk.step e u t { kind := k, at_ := a, n := n })), saw := Tk.TU.saw (Tk.Out.u (Tk.step e u t { kind := k, at_ := a, n := n })) })), false), (Tk.fits e u && Tk.inT (Tk.Out.t (Tk.step e u t { kind := k, at_ := a, n := n })) && Tk.inT (Tk.TU.saw (Tk.Out.u (Tk.step e u t { kind := k, at_ := a, n := n }))) && Tk.right k a n && !Tk.TU.over (Tk.Out.u (Tk.step e u t { kind := k, at_ := a, n := n })) && !Tk.TU.ok (Tk.Out.u (Tk.step e u t { kind := k, at_ := a, n := n })) && Tk.TU.wait (Tk.Out.u (Tk.step e u t { kind := k, at_ := a, n := n })) == 0 && Tk.TU.left (Tk.Out.u (Tk.step e u t { kind := k, at_ := a, n := n })) == 0, true), (!Tk.TU.over (Tk.Out.u (Tk.step e u t { kind := k, at_ := a, n := n })), true), (Tk.fits e u && Tk.inT t && Tk.inT 0 && Tk.right k a n && !false && !false && 0 == 0 && 0 == 0, true)]⟩)
theorem whole2_1 (e : Int) (u : Int) (t : Int) (k : Int) (a : Int) (n : Int) (ν : Key → Nat) : ((wholeC e u t k a n).run hostR3 whole2_n ν).map Prod.fst = some (whole2_o e u t k a n ν) := by kernel_rfl
theorem whole2_2 (e : Int) (u : Int) (t : Int) (k : Int) (a : Int) (n : Int) (ν : Key → Nat) : ((wholeC e u t k a n).run hostR3 whole2_n ν).map lefts = ((wholeC e u t k a n).run hostR3 whole2_n ν).map rights := by kernel_rfl
def wholeP (args : Array Value) : CP := match args.toList with
  | [.int .i64 e, .int .i64 u, .int .i64 t, .agg ⟨[.int .u8 k, .int .i64 a, .int .i64 n]⟩] => needs (Tk.fits e u && Tk.inT t && Tk.right k a n) <| .done 0 fun _ => match Tk.whole e u t k a n with
    | z => { res := .tuple #[.int .i64 z.t, tookV z.ok z.wait z.left] }
  | _ => .fail
theorem whole_ok : (⟨23, wholeP⟩ : Contract).Ok Tryd.prog := con_start fun args w => by
  unfold wholeP
  split
  · rename_i e u t k a n hargs
    obtain rfl := args_of hargs
    refine good_needs fun hn => good_done fun hl => ?_
    simp only [Bool.and_eq_true] at hn
    obtain ⟨⟨h1, h2⟩, h4⟩ := hn
    by_cases hk : k = 2
    · subst hk
      have es : Tk.step e u t { kind := 2, at_ := a, n := n } = ⟨t, { kind := 2, at_ := a, n := n, saw := t, over := true, left := Tk.leftOf e u t a }, ⟨1, t, t, true⟩⟩ := by simp [Tk.step]
      exact good_walk hostR3 whole1_n (c := wholeC e u t 2 a n) (whole1_1 e u t 2 a n) (whole1_2 e u t 2 a n) (by simp [whole1_o, h1, h2, h4, es, inT0]) rfl hl fun ν => ⟨[], rfl, rfl, by simp [whole1_o, es, Tk.whole, tookV], .same _, rfl, rfl⟩
    · by_cases hx : Tk.next e t a n > Tk.stop e u a
      · have es : Tk.step e u t { kind := k, at_ := a, n := n } = ⟨t, { kind := k, at_ := a, n := n, saw := t, over := true, wait := Tk.waitOf e u t a n }, ⟨1, t, t, true⟩⟩ := by simp [Tk.step, hk, hx]
        exact good_walk hostR3 whole1_n (c := wholeC e u t k a n) (whole1_1 e u t k a n) (whole1_2 e u t k a n) (by simp [whole1_o, h1, h2, h4, es, inT0]) rfl hl fun ν => ⟨[], rfl, rfl, by simp [whole1_o, es, Tk.whole, hk, hx, tookV], .same _, rfl, rfl⟩
      · have es : Tk.step e u t { kind := k, at_ := a, n := n } = ⟨t, { kind := k, at_ := a, n := n, put := true, saw := t }, ⟨1, t, t, true⟩⟩ := by simp [Tk.step, hk, hx]
        have es2 : Tk.step e u t { kind := k, at_ := a, n := n, put := true, saw := t } = ⟨Tk.next e t a n, { kind := k, at_ := a, n := n, saw := t, over := true, ok := true }, ⟨5, t, Tk.next e t a n, true⟩⟩ := by simp [Tk.step]
        exact good_walk hostR3 whole2_n (c := wholeC e u t k a n) (whole2_1 e u t k a n) (whole2_2 e u t k a n) (by simp [whole2_o, h1, h2, h4, es, es2, inT0]) rfl hl fun ν => ⟨[], rfl, rfl, by simp [whole2_o, es, es2, Tk.whole, hk, hx, tookV], .same _, rfl, rfl⟩
  · exact good_fail
def consL6 : List Contract := ⟨23, wholeP⟩ :: ⟨21, rstepP⟩ :: ⟨19, fitsP⟩ :: ⟨20, rightP⟩ :: consL5
theorem cons6 : ∀ c ∈ consL6, c.Ok Tryd.prog := con_ok whole_ok (con_ok rstep_ok (con_ok rfits_ok (con_ok rright_ok cons5)))
noncomputable def host6 : Host Tryd.prog := hostOf _ cons6
end Go.Proofs.YthglajoihlaldaaDoor
