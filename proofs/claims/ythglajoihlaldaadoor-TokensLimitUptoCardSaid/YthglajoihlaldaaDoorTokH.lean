/- A bucket in a walk's own memory. -/
import Derived.Test.YthglajoihlaldaaDoorTokG
import Derived.Test.YthglajoihlaldaaDoorOwn
namespace Go.Proofs.YthglajoihlaldaaDoor.tok
open Go Sy Close
def bktL (b c ws : Nat) (e u t : Int) (l : List (Nat × Nat × Value)) : List (Nat × Nat × Value) :=
  (ws, 0, .int .u64 t) :: (c, 0, .slice (some ⟨ws, 0, none⟩) 1 1) :: (b, 2, .int .i64 u) :: (b, 1, .int .i64 e) :: (b, 0, .pointer (some ⟨c, 0, none⟩)) :: l
theorem off_bkt {b c ws p : Nat} {e u t : Int} {l : List (Nat × Nat × Value)} (h1 : b ≠ p) (h2 : c ≠ p) (h3 : ws ≠ p) (h : Off p l) : Off p (bktL b c ws e u t l) :=
  off_cons h3 (off_cons h2 (off_cons h1 (off_cons h1 (off_cons h1 h))))
theorem far_bkt {W : World} {b c ws : Nat} {e u t : Int} {l : List (Nat × Nat × Value)} (h1 : W.heap.size ≤ b) (h2 : W.heap.size ≤ c) (h3 : W.heap.size ≤ ws) (h : Far W l) : Far W (bktL b c ws e u t l) :=
  far_cons h3 (far_cons h2 (far_cons h1 (far_cons h1 (far_cons h1 h))))
theorem own_bkt {W w : World} {b c ws : Nat} {e u t : Int} {l : List (Nat × Nat × Value)} {t1 t2 t3 : Nat} (h : Own W l w) (n1 : Blk w b t1 [.pointer (some ⟨c, 0, none⟩), .int .i64 e, .int .i64 u] ∧ W.heap.size ≤ b) (n2 : Blk w c t2 [.slice (some ⟨ws, 0, none⟩) 1 1] ∧ W.heap.size ≤ c) (n3 : Blk w ws t3 [.int .u64 t] ∧ W.heap.size ≤ ws)
    (h1 : b ≠ c) (h2 : b ≠ ws) (h3 : c ≠ ws) (o1 : Off b l) (o2 : Off c l) (o3 : Off ws l) : Own W (bktL b c ws e u t l) w :=
  ((h.blk n1.1 n1.2 o1).blk n2.1 n2.2 (off_blkL h1 o2)).blk n3.1 n3.2 (off_blkL h3 (off_blkL h2 o3))
end Go.Proofs.YthglajoihlaldaaDoor.tok
