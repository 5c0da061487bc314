/- TokensWait: the walk whole. -/
import Derived.Test.YthglajoihlaldaaDoorWaitB
namespace Go.Proofs.YthglajoihlaldaaDoor.wait
open Go Sy Close
set_option maxRecDepth 100000
/-- An operation that was handed in. -/
structure Op where
  k : Int
  a : Int
  n : Int
def Op.row (x : Op) : List Value := [.int .u8 x.k, .int .i64 x.a, .int .i64 x.n]
theorem op_rows {H : Type} {enc : TypeId × Value → H} {W : World} : ∀ n cs (x : DataW H × List MemPlace), cs.length = 3 → DataW.trod enc Tryd.prog W 0 (fun _ => true) true n 34 cs = some x → ∃ y : Op, cs = y.row := by
  intro n cs x hl h
  obtain ⟨k, h0⟩ := int_cell h 0 0 .u8 (by kernel_rfl)
  obtain ⟨a, h1⟩ := int_cell h 1 1 .i64 (by kernel_rfl)
  obtain ⟨b, h2⟩ := int_cell h 2 2 .i64 (by kernel_rfl)
  match cs, hl with
  | [c0, c1, c2], _ =>
    simp only [List.getElem?_cons_zero, List.getElem?_cons_succ, Option.some.injEq] at h0 h1 h2
    exact ⟨⟨k, a, b⟩, by rw [h0, h1, h2]; rfl⟩
theorem bLoose_far {W : World} {b c ws : Nat} {m cap : Nat} {e u t : Int} (h1 : W.heap.size ≤ b) (h2 : W.heap.size ≤ c) (h3 : W.heap.size ≤ ws) : ∀ x ∈ bLoose b c ws m cap e u t, W.heap.size ≤ x.1 ∨ ∃ z, x.2.2 = .bool z := by
  intro x hx
  simp only [bLoose, List.mem_cons] at hx
  rcases hx with rfl | rfl | rfl | rfl | rfl | hx
  · exact .inl h3
  · exact .inl h2
  · exact .inl h1
  · exact .inl h1
  · exact .inl h1
  · right
    simp only [bools, usesL, List.mem_cons, List.not_mem_nil, or_false] at hx
    rcases hx with rfl | rfl | rfl | rfl | rfl | rfl | rfl | rfl | rfl | rfl | rfl | rfl <;> exact ⟨_, rfl⟩
theorem far_cell {W w : World} {ab o : Nat} {v : Value} {l : List (Nat × Nat × Value)} (hb : ab < W.heap.size) (hc : w.cell? ⟨ab, o, none⟩ = some v) (hl : Sy.Looks w l) (hs : ∀ x ∈ l, W.heap.size ≤ x.1 ∨ x.2.2 ≠ v) : ∀ x ∈ l, ¬ (ab = x.1 ∧ o = x.2.1) := fun x hx ⟨h1, h2⟩ => by
  rcases hs x hx with h | h
  · omega
  · have := (hl.cell x hx).1
    rw [← h1, ← h2, hc] at this
    exact h (Option.some.inj this).symm
theorem el_eq (ao i s j : Nat) : sadd ao (smul i s) + j = ao + i * s + j := by rw [sadd_eq, smul_eq]

theorem uses_looks {W : World} (hU : ∀ j v, usesList[j]? = some v → W.cell? ⟨0, j, none⟩ = some v ∧ W.frozen? ⟨0, j, none⟩ = false) : Sy.Looks W usesC := by
  refine ⟨fun x hx => ?_, by decide⟩
  simp only [usesC, bools, usesL, List.mem_cons, List.not_mem_nil, or_false] at hx
  rcases hx with rfl | rfl | rfl | rfl | rfl | rfl | rfl | rfl | rfl | rfl | rfl | rfl <;> exact hU _ _ rfl
theorem uses_block : ∀ x ∈ usesC, x.1 = 0 := by
  intro x hx
  simp only [usesC, bools, usesL, List.mem_cons, List.not_mem_nil, or_false] at hx
  rcases hx with rfl | rfl | rfl | rfl | rfl | rfl | rfl | rfl | rfl | rfl | rfl | rfl <;> rfl
theorem bLoose_eq (b c ws : Nat) (e u t : Int) : bLoose b c ws 1 1 e u t = blkL ws [.int .u64 t] 0 (blkL c [.slice (some ⟨ws, 0, none⟩) 1 1] 0 (blkL b [.pointer (some ⟨c, 0, none⟩), .int .i64 e, .int .i64 u] 0 usesC)) := rfl
/-- What stands at the loop's head. -/
structure Inv (W : World) (b c ws : Nat) (e u t : Int) (w : World) : Prop where
  looks : Sy.Looks w (bLoose b c ws 1 1 e u t)
  old : Old W w
  hb : W.heap.size ≤ b
  hc : W.heap.size ≤ c
  hws : W.heap.size ≤ ws
  inT : Tk.inT t = true

theorem body : Tryd.f3.body = some (codeOf Tryd.f3) := by kernel_rfl
theorem ntmps : 5 ≤ Tryd.f3.ntmps := by decide +kernel

/-- The end. -/
abbrev Done (W : World) : Ending → World → Prop := fun e w => e = .returned (.bool true) ∧ Old W w

theorem tail {W : World} {b c ws : Nat} {e u t a n : Int} {sa : Option Addr} {len cap : Nat} {i : Int} {a0 : Act} {w : World} {Y : Nat → Act → World → Prop} (hf : Tk.fits e u = true) (hi : ¬ i < (len : Int)) (hI : Inv W b c ws e u t w)
    (hfr : Fr Tryd.f3.ntmps (waitL b i e u sa len cap a n) a0) : after Tryd.prog Y (bodyPost Tryd.prog Tryd.f3 (Done W)) (roundAt Tryd.f3 7) .normal a0 w := by
  have hin := hI.inT
  have hb0 : (Tk.fits e u && Tk.inT t && Nat.blt 0 1) = true := by rw [hf, hin]; rfl
  have fin : ∀ {left : Sy.Left} {w' : World} {tv : Value}, ({ loose := bLoose b c ws 1 1 e u t } : Mem).Post w left w' → Kept (bLoose b c ws 1 1 e u t) left.loose [(ws, 0, tv)] → Old W w' := fun hp hk =>
    hI.old.next (post_sub hI.looks hp hk) (fun k i ⟨x, hx, e1, _⟩ => by simp only [List.mem_singleton] at hx; rw [← e1, hx]; exact hI.hws)
  have fin0 : ∀ {left : Sy.Left} {w' : World}, ({ loose := bLoose b c ws 1 1 e u t } : Mem).Post w left w' → Kept (bLoose b c ws 1 1 e u t) left.loose [] → Old W w' := fun hp hk =>
    hI.old.next (post_sub hI.looks hp hk) (fun k i ⟨x, hx, e1, _⟩ => by cases hx)
  have hd : decide (i < (len : Int)) = false := by simpa using hi
  cases hp2 : Tk.right 2 a 0 with
  | false =>
    have ep : Tk.peek e u t a = ⟨0, 2⟩ := by simp [Tk.peek, hp2]
    refine Seg.wp host5 _ (waitX b c ws i t e u sa len cap a n) waitX1_n (waitX1_1 b c ws i t e u sa len cap a n) (waitX1_2 b c ws i t e u sa len cap a n) ?_ hfr hI.looks.met fun ν j a' w' _ hp => ?_
    · simp [waitX1_o, ep, hb0, hd]
    · exact ⟨by simp [waitX1_o, ep], fin0 hp (.same _)⟩
  | true =>
    have ep : Tk.peek e u t a = ⟨Tk.leftOf e u t a, 0⟩ := by simp [Tk.peek, hp2]
    have F0 := Tk.fine hf hin hp2
    obtain ⟨l1, l2⟩ := F0.left_le
    have hu := F0.u2
    have hr2 := hp2
    rw [Tk.right_iff] at hr2
    have wl : IntKind.i64.wrap (Tk.leftOf e u t a + 1) = Tk.leftOf e u t a + 1 := wrap_i64 (by omega) (by omega)
    -- one more than there are
    have more : Tk.leftOf e u t a < u → Tk.take e u t a (Tk.leftOf e u t a + 1) = ⟨t, false, Tk.waitOf e u t a (Tk.leftOf e u t a + 1), 0⟩ := fun hlt => by
      refine Tk.take_wait (by rw [Tk.right_iff]; omega) ?_
      have := Tk.given_iff (u := u) (t := t) (a := a) F0.e1 (n := Tk.leftOf e u t a + 1) (by omega)
      omega
    cases hr : Tk.right 1 a n with
    | false =>
      have et := Tk.take_no (e := e) (u := u) (t := t) hr
      by_cases hlt : Tk.leftOf e u t a < u
      · refine Seg.wp host5 _ (waitX b c ws i t e u sa len cap a n) waitX3_n (waitX3_1 b c ws i t e u sa len cap a n) (waitX3_2 b c ws i t e u sa len cap a n) ?_ hfr hI.looks.met fun ν j a' w' _ hp => ?_
        · simp [waitX3_o, ep, hb0, hd, wl, more hlt, et, hf, hin, hlt]
        · exact ⟨by simp [waitX3_o, ep, wl, more hlt, et], fin (tv := .int .u64 t) hp (by simp only [waitX3_o, ep, wl, more hlt, et]; exact .set (.same _))⟩
      · refine Seg.wp host5 _ (waitX b c ws i t e u sa len cap a n) waitX2_n (waitX2_1 b c ws i t e u sa len cap a n) (waitX2_2 b c ws i t e u sa len cap a n) ?_ hfr hI.looks.met fun ν j a' w' _ hp => ?_
        · simp [waitX2_o, ep, hb0, hd, et, hf, hin] <;> omega
        · exact ⟨by simp [waitX2_o, et], fin (tv := .int .u64 t) hp (by simp only [waitX2_o, et]; exact .set (.same _))⟩
    | true =>
      have F := Tk.fine hf hin hr
      have hr1 := hr
      rw [Tk.right_iff] at hr1
      have hn1 : 1 ≤ n := by omega
      have hg := Tk.given_iff (u := u) (t := t) (a := a) F.e1 hn1
      by_cases hx : Tk.next e t a n > Tk.stop e u a
      · have et := Tk.take_wait (u := u) hr hx
        have hnl : ¬ n ≤ Tk.leftOf e u t a := by omega
        by_cases hnu : n > u
        · have ew : Tk.waitOf e u t a n = -1 := by simp [Tk.waitOf, hnu]
          by_cases hlt : Tk.leftOf e u t a < u
          · refine Seg.wp host5 _ (waitX b c ws i t e u sa len cap a n) waitX7_n (waitX7_1 b c ws i t e u sa len cap a n) (waitX7_2 b c ws i t e u sa len cap a n) ?_ hfr hI.looks.met fun ν j a' w' _ hp => ?_
            · simp [waitX7_o, ep, hb0, hd, wl, more hlt, et, hf, hin, hlt, hnl] <;> omega
            · exact ⟨by simp [waitX7_o, ep, wl, more hlt, et, ew], fin (tv := .int .u64 t) hp (by simp only [waitX7_o, ep, wl, more hlt, et]; exact .set (.same _))⟩
          · refine Seg.wp host5 _ (waitX b c ws i t e u sa len cap a n) waitX6_n (waitX6_1 b c ws i t e u sa len cap a n) (waitX6_2 b c ws i t e u sa len cap a n) ?_ hfr hI.looks.met fun ν j a' w' _ hp => ?_
            · simp [waitX6_o, ep, hb0, hd, et, hf, hin, hnl] <;> omega
            · exact ⟨by simp [waitX6_o, et, ew], fin (tv := .int .u64 t) hp (by simp only [waitX6_o, et]; exact .set (.same _))⟩
        · have hlt : Tk.leftOf e u t a < u := by omega
          have ew : Tk.waitOf e u t a n = Tk.next e t a n - Tk.stop e u a := by simp [Tk.waitOf, hnu]
          have hne := F.ne
          have hue := F.ue
          have hnu' : n * e ≤ u * e := Int.mul_le_mul_of_nonneg_right (by omega) (by have := F.e1; omega)
          have ht1 := F.t1
          have ht2 := F.t2
          have ha1 := F.a1
          have ha2 := F.a2
          have hmax : max t a = t := by unfold Tk.next Tk.stop at hx; omega
          have ww : IntKind.i64.wrap (2305843009213693952 - (Tk.next e t a n - Tk.stop e u a)) = 2305843009213693952 - (Tk.next e t a n - Tk.stop e u a) := by
            unfold Tk.next Tk.stop; exact wrap_i64 (by omega) (by omega)
          by_cases ha : a > 2305843009213693952 - (Tk.next e t a n - Tk.stop e u a)
          · refine Seg.wp host5 _ (waitX b c ws i t e u sa len cap a n) waitX8_n (waitX8_1 b c ws i t e u sa len cap a n) (waitX8_2 b c ws i t e u sa len cap a n) ?_ hfr hI.looks.met fun ν j a' w' _ hp => ?_
            · simp [waitX8_o, ep, hb0, hd, wl, more hlt, et, ew, ww, hf, hin, hlt, hnl] <;> omega
            · exact ⟨by simp [waitX8_o], fin (tv := .int .u64 t) hp (by simp only [waitX8_o, ep, wl, more hlt, et]; exact .set (.same _))⟩
          · have w1 : IntKind.i64.wrap (a + (Tk.next e t a n - Tk.stop e u a)) = a + (Tk.next e t a n - Tk.stop e u a) := wrap_i64 (by omega) (by omega)
            have w2 : IntKind.i64.wrap (a + (Tk.next e t a n - Tk.stop e u a) - 1) = a + (Tk.next e t a n - Tk.stop e u a) - 1 := wrap_i64 (by omega) (by omega)
            have q1 : Tk.take e u t (a + (Tk.next e t a n - Tk.stop e u a) - 1) n = ⟨t, false, 1, 0⟩ := by
              have hs : Tk.next e t (a + (Tk.next e t a n - Tk.stop e u a) - 1) n > Tk.stop e u (a + (Tk.next e t a n - Tk.stop e u a) - 1) := by unfold Tk.next Tk.stop at *; omega
              rw [Tk.take_wait (by rw [Tk.right_iff]; omega) hs]
              have : Tk.waitOf e u t (a + (Tk.next e t a n - Tk.stop e u a) - 1) n = 1 := by
                unfold Tk.waitOf
                rw [if_neg hnu]
                unfold Tk.next Tk.stop at *
                omega
              rw [this]
            have q2 : Tk.take e u t (a + (Tk.next e t a n - Tk.stop e u a)) n = ⟨Tk.next e t (a + (Tk.next e t a n - Tk.stop e u a)) n, true, 0, 0⟩ :=
              Tk.take_yes (by rw [Tk.right_iff]; omega) (by unfold Tk.next Tk.stop at *; omega)
            refine Seg.wp host5 _ (waitX b c ws i t e u sa len cap a n) waitX9_n (waitX9_1 b c ws i t e u sa len cap a n) (waitX9_2 b c ws i t e u sa len cap a n) ?_ hfr hI.looks.met fun ν j a' w' _ hp => ?_
            · simp [waitX9_o, ep, hb0, hd, wl, more hlt, et, ew, ww, w1, w2, q1, q2, hf, hin, hlt, hnl] <;> omega
            · exact ⟨by simp [waitX9_o, ep, wl, more hlt, et, ew, w1, w2, q1, q2], fin (tv := .int .u64 (Tk.next e t (a + (Tk.next e t a n - Tk.stop e u a)) n)) hp (by simp only [waitX9_o, ep, wl, more hlt, et, ew, w1, w2, q1, q2]; exact .set (.same _))⟩
      · have et := Tk.take_yes (u := u) hr hx
        have hnl : n ≤ Tk.leftOf e u t a := by omega
        have hin' : Tk.inT (Tk.next e t a n) = true := by rw [Tk.inT_iff]; exact F.next_le hx
        have ep' : Tk.peek e u (Tk.next e t a n) a = ⟨Tk.leftOf e u t a - n, 0⟩ := by simp [Tk.peek, hp2, Tk.left_next F.e1 hn1 hx]
        have wd : IntKind.i64.wrap (Tk.leftOf e u t a - n) = Tk.leftOf e u t a - n := wrap_i64 (by omega) (by omega)
        by_cases hlt : Tk.leftOf e u t a < u
        · refine Seg.wp host5 _ (waitX b c ws i t e u sa len cap a n) waitX5_n (waitX5_1 b c ws i t e u sa len cap a n) (waitX5_2 b c ws i t e u sa len cap a n) ?_ hfr hI.looks.met fun ν j a' w' _ hp => ?_
          · simp [waitX5_o, ep, hb0, hd, wl, more hlt, et, ep', wd, hf, hin, hin', hlt, hnl]
          · exact ⟨by simp [waitX5_o, ep, wl, more hlt, et], fin (tv := .int .u64 (Tk.next e t a n)) hp (by simp only [waitX5_o, ep, wl, more hlt, et]; exact .set (.same _))⟩
        · refine Seg.wp host5 _ (waitX b c ws i t e u sa len cap a n) waitX4_n (waitX4_1 b c ws i t e u sa len cap a n) (waitX4_2 b c ws i t e u sa len cap a n) ?_ hfr hI.looks.met fun ν j a' w' _ hp => ?_
          · simp [waitX4_o, ep, hb0, hd, et, ep', wd, hf, hin, hin', hnl] <;> omega
          · exact ⟨by simp [waitX4_o, et], fin (tv := .int .u64 (Tk.next e t a n)) hp (by simp only [waitX4_o, et]; exact .set (.same _))⟩

theorem calls {W : World} (e u a0 n : Int) {sa : Option Addr} {len cap : Nat} {l : List Op} (hl : l.length = len) (hcap : len ≤ cap) (hmax : cap ≤ maxLen) (hel : ∀ i y, l[i]? = some y → Elem W sa 3 i y.row)
    (hU : ∀ j v, usesList[j]? = some v → W.cell? ⟨0, j, none⟩ = some v ∧ W.frozen? ⟨0, j, none⟩ = false) :
    Calls Tryd.prog 3 #[.int .i64 e, .int .i64 u, .slice sa len cap, .int .i64 a0, .int .i64 n] W (Done W) := by
  have hlu : Sy.Looks W usesC := uses_looks hU
  refine calls_after (X := fun _ _ _ => False) Tryd.func3 body ntmps fun a1 ha => ?_
  cases hf : Tk.fits e u with
  | false =>
    refine Seg.wp host5 _ (waitA e u sa len cap a0 n) waitA1_n (waitA1_1 e u sa len cap a0 n) (waitA1_2 e u sa len cap a0 n) ?_ ha hlu.met fun ν j a' w' _ hp => ?_
    · simp [waitA1_o, hf]
    · exact ⟨rfl, (Old.start W).next (post_sub hlu hp (.same _)) (fun k i ⟨x, hx, _⟩ => by cases hx)⟩
  | true =>
    refine Seg.wp host5 _ (waitA e u sa len cap a0 n) waitA2_n (waitA2_1 e u sa len cap a0 n) (waitA2_2 e u sa len cap a0 n) ?_ ha hlu.met fun ν j a' w' hfr hp => ?_
    · simp [waitA2_o, hf]
    · have hL := post_looks hlu hp (.same _)
      have hO : Old W w' := (Old.start W).next (post_sub hlu hp (.same _)) (fun k i ⟨x, hx, _⟩ => by cases hx)
      have hn := hp.news
      have hnn := hp.nnew
      simp only [waitA2_o] at hL hn hnn hfr
      generalize ν [0, 1, 0 + 1 + 1, 0 + 1 + 1] = b at *
      generalize ν [0 + 1, 1, 0 + 1 + 1, 0 + 1 + 1] = c at *
      generalize ν [0 + 1 + 1, 1, 0 + 1 + 1, 0 + 1 + 1] = ws at *
      obtain ⟨n1, m1⟩ := hn _ (List.mem_cons_self ..)
      obtain ⟨n2, m2⟩ := hn _ (List.mem_cons_of_mem _ (List.mem_cons_self ..))
      obtain ⟨n3, m3⟩ := hn _ (List.mem_cons_of_mem _ (List.mem_cons_of_mem _ (List.mem_cons_self ..)))
      have hg : 0 < W.heap.size := lt_of_cell? (hU 0 _ rfl).1
      simp only [List.map_cons, List.map_nil, List.nodup_cons, List.mem_cons, List.not_mem_nil, or_false, not_or] at hnn
      have hI : Inv W b c ws e u 0 w' := by
        refine ⟨?_, hO, m3, m2, m1, rfl⟩
        rw [bLoose_eq]
        refine looks_blk (looks_blk (looks_blk hL n3 (fun x hx => by rw [uses_block x hx]; omega)) n2 (fun x hx => ?_)) n1 (fun x hx => ?_)
        · simp only [blkL, List.mem_cons] at hx
          rcases hx with rfl | rfl | rfl | hx
          · exact fun e => hnn.2.1 e.symm
          · exact fun e => hnn.2.1 e.symm
          · exact fun e => hnn.2.1 e.symm
          · rw [uses_block x hx]; omega
        · simp only [blkL, List.mem_cons] at hx
          rcases hx with rfl | rfl | rfl | rfl | hx
          · exact fun e => hnn.1.1 e.symm
          · exact fun e => hnn.1.2 e.symm
          · exact fun e => hnn.1.2 e.symm
          · exact fun e => hnn.1.2 e.symm
          · rw [uses_block x hx]; omega
      refine loop_after (i := 7) (by kernel_rfl) (fun m a w => ∃ (i : Nat) (t : Int), m = len - i ∧ i ≤ len ∧ Fr Tryd.f3.ntmps (waitL b i e u sa len cap a0 n) a ∧ Inv W b c ws e u t w) len ⟨0, 0, rfl, Nat.zero_le _, hfr, hI⟩ ?_
      rintro m a1 w1 ⟨i, t, rfl, hi, hfr1, hI1⟩ Y hY _
      by_cases hlt : i < len
      · obtain ⟨y, hy⟩ : ∃ y, l[i]? = some y := ⟨_, List.getElem?_eq_getElem (by omega)⟩
        obtain ⟨ab, ao, rfl, hab, hcell⟩ := hI1.old.elem (hel i y hy)
        obtain ⟨ab', ao', e1, hab', _⟩ := hel i y hy
        simp only [Option.some.injEq, Addr.mk.injEq, and_true] at e1
        obtain ⟨rfl, rfl⟩ := e1
        have c1 := hcell 1 _ rfl
        have c2 := hcell 2 _ rfl
        have hfar := bLoose_far (m := 1) (cap := 1) (e := e) (u := u) (t := t) hI1.hb hI1.hc hI1.hws
        have hl1 : Sy.Looks w1 ((ab, sadd ao (smul (Int.toNat i) 3) + 1, .int .i64 y.a) :: (ab, sadd ao (smul (Int.toNat i) 3) + 2, .int .i64 y.n) :: bLoose b c ws 1 1 e u t) := by
          simp only [el_eq, Int.toNat_natCast]
          refine looks_add (looks_add hI1.looks c2 (far_cell hab' c2.1 hI1.looks fun x hx => (hfar x hx).imp id fun ⟨z, hz⟩ => by rw [hz]; simp)) c1 (fun x hx => ?_)
          rcases List.mem_cons.1 hx with rfl | hx
          · simp only; omega
          · exact far_cell hab' c1.1 hI1.looks (fun x hx => (hfar x hx).imp id fun ⟨z, hz⟩ => by rw [hz]; simp) x hx
        have hb0 : (Tk.fits e u && Tk.inT t && Nat.blt 0 1) = true := by rw [hf, hI1.inT]; rfl
        refine Seg.wp host5 _ (waitR b c ws i t y.a y.n e u ab ao len cap a0 n) waitR1_n (waitR1_1 b c ws i t y.a y.n e u ab ao len cap a0 n) (waitR1_2 b c ws i t y.a y.n e u ab ao len cap a0 n) ?_ hfr1 hl1.met fun ν j a' w2 hfr2 hp2 => ?_
        · simp [waitR1_o, hb0, hlt]
        · have hk : Kept ((ab, sadd ao (smul (Int.toNat i) 3) + 1, .int .i64 y.a) :: (ab, sadd ao (smul (Int.toNat i) 3) + 2, .int .i64 y.n) :: bLoose b c ws 1 1 e u t) (waitR1_o b c ws i t y.a y.n e u ab ao len cap a0 n ν j).2.2.loose [(ws, 0, .int .u64 (Tk.take e u t y.a y.n).t)] := .keep (.keep (.set (.same _)))
          refine hY (len - (i + 1)) a' w2 (by omega) ⟨i + 1, (Tk.take e u t y.a y.n).t, rfl, hlt, ?_, ?_⟩
          · have : IntKind.i64.wrap ((i : Int) + 1) = ((i + 1 : Nat) : Int) := by
              rw [wrap_i64 (by omega) (by unfold maxLen at hmax; omega)]; simp
            simp only [waitR1_o, this] at hfr2
            exact hfr2
          · exact ⟨looks_sub (post_looks hl1 hp2 hk) (List.Sublist.cons _ (List.Sublist.cons _ (List.Sublist.refl _))), hI1.old.next (post_sub hl1 hp2 hk) (fun k i ⟨x, hx, e1, _⟩ => by simp only [List.mem_singleton] at hx; rw [← e1, hx]; exact hI1.hws),
              hI1.hb, hI1.hc, hI1.hws, Tk.take_inT hf hI1.inT⟩
      · exact tail hf (by omega) hI1 hfr1
end Go.Proofs.YthglajoihlaldaaDoor.wait
