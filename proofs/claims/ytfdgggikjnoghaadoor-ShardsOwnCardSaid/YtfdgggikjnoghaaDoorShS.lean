/- Sharded counters and the document's answer: All, Right, Many, Copy, Same as contracts. -/
import Derived.Test.YtfdgggikjnoghaaDoorShR
namespace Go.Proofs.YtfdgggikjnoghaaDoor
open Go Sy Close
set_option maxRecDepth 100000
def slL : Value → List Nat
  | .slice (some a) _ c => [a.block, c]
  | _ => []
def nAllP (args : Array Value) : CP := match args.toList with
  | [.pointer (some ⟨c, 0, none⟩)] => loadPtr ⟨c, 0, none⟩ fun cb => loadSl ⟨cb, 0, none⟩ fun ws n cap => needs (Nat.blt 0 n && Nat.ble n 65536) <| loadRow (.slice (some ⟨ws, 0, none⟩) n cap) fun _ xs => outP n xs
  | _ => .fail
theorem nAll_ok : (⟨24, nAllP⟩ : Contract).Ok Tryd.prog := con_start fun args w0 => by
  unfold nAllP
  split
  · rename_i c hargs
    obtain rfl := args_of hargs
    refine good_ptr fun cb => good_sl fun ws n cap => good_needs fun hn => Sy.good_row fun n' xv => good_needs fun hu => good_doneR fun hl hrw => ?_
    exact good_walkR host3 nAll_n (c := nAllC c cb ws n cap n' xv) (nAll_1 c cb ws n cap n' xv) (nAll_2 c cb ws n cap n' xv) (by
      intro ν p hp
      simp only [nAll_o, wordsV, List.mem_cons, List.not_mem_nil, or_false] at hp
      rcases hp with rfl | rfl
      · exact hu
      · exact hn) rfl hl hrw fun ν => ⟨((nAll_o c cb ws n cap n' xv ν).2.vecs.getLast?.map fun x => slL x.v).getD [], rfl, rfl, rfl, .same _, rfl, rfl⟩
  · exact good_fail
theorem rright_ok : (⟨20, rightP⟩ : Contract).Ok Tryd.prog := con_start fun args w => by
  unfold rightP
  split
  · rename_i k a b hargs
    obtain rfl := args_of hargs
    refine good_done fun hl => ?_
    by_cases h1 : k = 1
    · subst h1
      exact good_walk host rright1_n (c := rrightC 1 a b) (rright1_1 1 a b) (rright1_2 1 a b) (by simp [rright1_o]) rfl hl fun ν => ⟨[], rfl, rfl, by simp [rright1_o, Sk.right, Sk.isOne, Sk.isAll], .same _, rfl, rfl⟩
    · by_cases h2 : k = 2
      · subst h2
        by_cases h3 : 0 ≤ a
        · exact good_walk host rright2_n (c := rrightC 2 a b) (rright2_1 2 a b) (rright2_2 2 a b) (by simp [rright2_o, h3] <;> omega) rfl hl fun ν => ⟨[], rfl, rfl, by simp [rright2_o, Sk.right, Sk.isOne, Sk.isAll, h3]; rfl, .same _, rfl, rfl⟩
        · exact good_walk host rright3_n (c := rrightC 2 a b) (rright3_1 2 a b) (rright3_2 2 a b) (by simp [rright3_o, h3] <;> omega) rfl hl fun ν => ⟨[], rfl, rfl, by simp [rright3_o, Sk.right, Sk.isOne, Sk.isAll, h3], .same _, rfl, rfl⟩
      · by_cases h3 : k = 3
        · subst h3
          by_cases h4 : a = 0
          · subst h4
            exact good_walk host rright4_n (c := rrightC 3 0 b) (rright4_1 3 0 b) (rright4_2 3 0 b) (by simp [rright4_o]) rfl hl fun ν => ⟨[], rfl, rfl, by simp [rright4_o, Sk.right, Sk.isOne, Sk.isAll]; rfl, .same _, rfl, rfl⟩
          · exact good_walk host rright5_n (c := rrightC 3 a b) (rright5_1 3 a b) (rright5_2 3 a b) (by simp [rright5_o, h4]) rfl hl fun ν => ⟨[], rfl, rfl, by simp [rright5_o, Sk.right, Sk.isOne, Sk.isAll, h4], .same _, rfl, rfl⟩
        · by_cases h5 : k = 4
          · subst h5
            by_cases h4 : a = 0
            · subst h4
              exact good_walk host rright6_n (c := rrightC 4 0 b) (rright6_1 4 0 b) (rright6_2 4 0 b) (by simp [rright6_o]) rfl hl fun ν => ⟨[], rfl, rfl, by simp [rright6_o, Sk.right, Sk.isOne, Sk.isAll]; rfl, .same _, rfl, rfl⟩
            · exact good_walk host rright7_n (c := rrightC 4 a b) (rright7_1 4 a b) (rright7_2 4 a b) (by simp [rright7_o, h4]) rfl hl fun ν => ⟨[], rfl, rfl, by simp [rright7_o, Sk.right, Sk.isOne, Sk.isAll, h4], .same _, rfl, rfl⟩
          · exact good_walk host rright8_n (c := rrightC k a b) (rright8_1 k a b) (rright8_2 k a b) (by simp [rright8_o, h1, h2, h3, h5]) rfl hl fun ν => ⟨[], rfl, rfl, by simp [rright8_o, Sk.right, Sk.isOne, Sk.isAll, h1, h2, h3, h5], .same _, rfl, rfl⟩
  · exact good_fail
def manyOf (n k : Int) : Int := if Sk.isAll k = true then n else 1
def manyP (args : Array Value) : CP := match args.toList with
  | [.int .i64 n, .agg ⟨[.int .u8 k, .int .i64 _, .int .u64 _]⟩] => .done 0 fun _ => { res := .int .i64 (manyOf n k) }
  | _ => .fail
theorem many_ok : (⟨35, manyP⟩ : Contract).Ok Tryd.prog := con_start fun args w => by
  unfold manyP
  split
  · rename_i n k a b hargs
    obtain rfl := args_of hargs
    refine good_done fun hl => ?_
    by_cases h3 : k = 3
    · subst h3
      exact good_walk host many1_n (c := manyC n 3 a b) (many1_1 n 3 a b) (many1_2 n 3 a b) (by simp [many1_o]) rfl hl fun ν => ⟨[], rfl, rfl, rfl, .same _, rfl, rfl⟩
    · by_cases h4 : k = 4
      · subst h4
        exact good_walk host many2_n (c := manyC n 4 a b) (many2_1 n 4 a b) (many2_2 n 4 a b) (by simp [many2_o]) rfl hl fun ν => ⟨[], rfl, rfl, rfl, .same _, rfl, rfl⟩
      · exact good_walk host many3_n (c := manyC n k a b) (many3_1 n k a b) (many3_2 n k a b) (by simp [many3_o, h3, h4]) rfl hl fun ν => ⟨[], rfl, rfl, by simp [many3_o, manyOf, Sk.isAll, h3, h4], .same _, rfl, rfl⟩
  · exact good_fail
end Go.Proofs.YtfdgggikjnoghaaDoor
