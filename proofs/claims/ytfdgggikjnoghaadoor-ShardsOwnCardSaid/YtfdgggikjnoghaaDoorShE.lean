/- Sharded counters: done as a contract. -/
import Derived.Test.YtfdgggikjnoghaaDoorShD
namespace Go.Proofs.YtfdgggikjnoghaaDoor
open Go Sy Close
set_option maxRecDepth 100000
def doneZ (n : Nat) (k w b : Int) (xs : List Int) : Sy.Ends := { res := .tuple #[.int .u64 (Sk.run n xs (Sk.start n k w b)).2.sum, errV 0], sets := [(0, (Sk.run n xs (Sk.start n k w b)).1.map u64V)] }
def doneP (args : Array Value) : CP := match args.toList with
  | [.pointer (some ⟨c, 0, none⟩), .agg ⟨[.int .u8 k, .int .i64 w, .int .u64 b]⟩] => loadsB 0 usesL <| loadPtr ⟨c, 0, none⟩ fun cb => loadSl ⟨cb, 0, none⟩ fun ws n cap => needs (Nat.blt 0 n) <| loadRow (.slice (some ⟨ws, 0, none⟩) n cap) fun _ xs => .test (Sk.right k w b) fun g => match g with
    | true => .done 0 fun _ => doneZ n k w b xs
    | false => .done 0 fun _ => { res := .tuple #[.int .u64 0, errV 2] }
  | _ => .fail
/-- What holds ahead of each round. -/
structure DInv (w0 : World) (p kb bb c cb ws n cap : Nat) (k w b : Int) (xs0 : List Int) (m : Nat) (a : Act) (w1 : World) : Prop where
  st : ∃ (u : Sk.SU) (xs : List Int), Sy.Looks w1 (pendL p kb bb c cb ws n cap k w b u.ak u.ab u.cell u.last u.sum u.over) ∧ w1.ownsRow 0 91 1 (.slice (some ⟨ws, 0, none⟩) n cap) n (xs.map u64V) ∧ Sk.Live n u ∧ m = Sk.left u ∧ Sk.run n xs0 (Sk.start n k w b) = Sk.run m xs u
  sub : Sub (fun g _ => g = ws) w0 w1
  fr : Fr Tryd.f30.ntmps [(6, .pointer (some ⟨p, 0, none⟩)), (7, .int .i64 0)] a
theorem off_pend {g p kb bb c cb ws n cap : Nat} {k w b ak ab cell last sum : Int} {over : Bool} (h1 : p ≠ g) (h2 : kb ≠ g) (h3 : bb ≠ g) (h4 : Off g (cntL c cb ws n cap ++ usesC)) : Off g (pendL p kb bb c cb ws n cap k w b ak ab cell last sum over) :=
  off_blkL h1 (off_blkL h2 (off_blkL h3 h4))
theorem met_plain {w w' : World} {z : Sy.Ends} {R : List Vec} (h1 : z.st = []) (h2 : z.news = []) (h3 : z.vecs = []) (hr : ∀ x ∈ rowsNow z.sets 0 R, w'.ownsRow 0 x.e x.size x.v x.n x.xs) (hs : Sub (fun g _ => ∃ x ∈ R, x.v.ownBlock = some g) w w') : z.Met [] R w w' :=
  ⟨by simp [h1], by simp [h2], by simp [h2], by simp [h3], by simp [h3], by simp [h3], hr, hs.mono fun _ _ h => .inr h⟩
theorem post_sub_n {w w' : World} {left : Sy.Left} (hp : ({} : Mem).Post w left w') : Sub (fun _ _ => False) w w' := hp.sub.less fun k i hc _ => by
  rcases hc with ⟨c, hm, _⟩ | ⟨x, hx, _⟩
  · cases hm
  · cases hx
theorem sub_two {C : Nat → Nat → Prop} {w w1 w2 : World} (h : Sub C w w1) {C' : Nat → Nat → Prop} (h2 : Sub C' w1 w2) (hC : ∀ k i, C' k i → C k i ∨ w.heap.size ≤ k) : Sub C w w2 := Sub.trans (B := w.heap.size) h (h2.mono hC) (Nat.le_refl _)
theorem done_ok : (⟨30, doneP⟩ : Contract).Ok Tryd.prog := con_start fun args w0 => by
  unfold doneP
  split
  · rename_i c k w b hargs
    obtain rfl := args_of hargs
    refine good_bools (good_ptr fun cb => good_sl fun ws n cap => good_needs fun hn => Sy.good_row fun n' xv => good_needs fun hu => good_test ?_)
    have hn0 : 0 < n := by simpa [Nat.blt_eq] using hn
    cases hr : Sk.right k w b
    · refine good_doneR fun hl hrw => calls_after (X := fun _ _ _ => False) (fn := Tryd.f30) Tryd.func30 rfl (show 2 ≤ Tryd.f30.ntmps by decide) fun a hfr => ?_
      refine Seg.wp host2 _ (doneA c cb ws n cap k w b) doneA2_n (doneA2_1 c cb ws n cap k w b) (doneA2_2 c cb ws n cap k w b) ?_ hfr hl.met fun ν j a1 w1 hfr1 hp1 => ?_
      · simp [doneA2_o, hr, hn]
      · refine loop_after (i := 2) (by kernel_rfl) (fun _ a w => a = a1 ∧ w = w1) 0 ⟨rfl, rfl⟩ ?_
        rintro m a9 w9 ⟨rfl, rfl⟩ Y hY _
        refine Seg.wp host2 _ doneY doneY1_n doneY1_1 doneY1_2 (fun ν j p hp => by simp [doneY1_o] at hp) hfr1 (Looks.nil _).met fun ν j a2 w2 hfr2 hp2 => ?_
        have hs := sub_two (post_sub (left := (doneA2_o c cb ws n cap k w b ν j).2.2) hl hp1 (.same _)) (post_sub_n hp2) (fun _ _ h => h.elim)
        refine ⟨[], rfl, rfl, met_plain rfl rfl rfl (fun x hx => ?_) (hs.mono fun _ _ ⟨x, hx, _⟩ => by cases hx)⟩
        rw [rowsNow_nil] at hx
        exact (hrw.row x hx).far (fun g hg => hs.far (heap_lt_of_own (hrw.row x hx) hg) (fun i ⟨x, hx, _⟩ => by cases hx))
    · refine good_doneR fun hl hrw => calls_after (X := fun _ _ _ => False) (fn := Tryd.f30) Tryd.func30 rfl (show 2 ≤ Tryd.f30.ntmps by decide) fun a hfr => ?_
      have hrow : w0.ownsRow 0 91 1 (.slice (some ⟨ws, 0, none⟩) n cap) n' xv := hrw.row _ (List.mem_singleton.2 rfl)
      obtain ⟨e1, e2, _⟩ := owns_at hrow
      subst e1
      have hws : ws < w0.heap.size := heap_lt_of_own hrow rfl
      have hmax : n' ≤ 9223372036854775807 := by
        rcases hrow.2 with ⟨h, _⟩ | ⟨g, cp, cur, h, _, _, h5, h6, _⟩
        · cases h
        · unfold maxLen at h6; omega
      have hoff : Off ws (cntL c cb ws n' cap ++ usesC) := fun x hx => hrw.off _ (List.mem_singleton.2 rfl) ws rfl x hx
      refine Seg.wp host2 _ (doneA c cb ws n' cap k w b) doneA1_n (doneA1_1 c cb ws n' cap k w b) (doneA1_2 c cb ws n' cap k w b) ?_ hfr hl.met fun ν j a1 w1 hfr1 hp1 => ?_
      · simp [doneA1_o, hr, hn]
      · have hl1 : Sy.Looks w1 (cntL c cb ws n' cap ++ usesC) := post_looks (left := (doneA1_o c cb ws n' cap k w b ν j).2.2) hl hp1 (.same _)
        have hs1 := post_sub (left := (doneA1_o c cb ws n' cap k w b ν j).2.2) hl hp1 (.same _)
        obtain ⟨p, kb, bb, hnews⟩ : ∃ p kb bb, (doneA1_o c cb ws n' cap k w b ν j).2.2.news = [(p, 71, pendV c k w b kb bb (Sk.cellOf n' k w) (Sk.lastOf n' k w) 0 false), (kb, 31, [.int .u8 (Sk.akOf k)]), (bb, 32, [.int .u64 (Sk.abOf k b)])] ∧ (doneA1_o c cb ws n' cap k w b ν j).2.1 = [(6, .pointer (some ⟨p, 0, none⟩)), (7, .int .i64 0)] := ⟨_, _, _, rfl, rfl⟩
        obtain ⟨hnews, hlive⟩ := hnews
        have hN := hp1.news
        have hD := hp1.nnew
        rw [hnews] at hN hD
        rw [hlive] at hfr1
        simp only [List.map_cons, List.map_nil, List.nodup_cons, List.mem_cons, List.not_mem_nil, or_false, not_or, not_false_eq_true, List.nodup_nil, and_true] at hD
        obtain ⟨⟨d1, d2⟩, d3⟩ := hD
        obtain ⟨b1, g1⟩ := hN _ (List.mem_cons_self ..)
        obtain ⟨b2, g2⟩ := hN _ (List.mem_cons_of_mem _ (List.mem_cons_self ..))
        obtain ⟨b3, g3⟩ := hN _ (List.mem_cons_of_mem _ (List.mem_cons_of_mem _ (List.mem_cons_self ..)))
        simp only at b1 g1 b2 g2 b3 g3
        have f1 := off_new hl g1
        have f2 := off_new hl g2
        have f3 := off_new hl g3
        have hpl : ∀ {k w b ak ab cell last sum : Int} {over : Bool}, Off ws (pendL p kb bb c cb ws n' cap k w b ak ab cell last sum over) := fun {k w b ak ab cell last sum over} => off_pend (by omega) (by omega) (by omega) hoff
        have hI : DInv w0 p kb bb c cb ws n' cap k w b (xv.map valU) (Sk.left (Sk.start n' k w b)) a1 w1 := by
          refine ⟨⟨Sk.start n' k w b, xv.map valU, looks_blk (looks_blk (looks_blk hl1 b3 f3) b2 (off_blkL (Ne.symm d3) f2)) b1 (off_blkL (Ne.symm d1) (off_blkL (Ne.symm d2) f1)), ?_, Sk.start_live hr hn0 hmax, rfl, ?_⟩, hs1.mono (fun _ _ ⟨x, hx, _⟩ => by cases hx), hfr1⟩
          · rw [map_u64V hu]
            exact hrow.far (fun g hg => hs1.far (heap_lt_of_own hrow hg) (fun i ⟨x, hx, _⟩ => by cases hx))
          · exact Sk.run_left hmax _ _ _ (Sk.start_live hr hn0 hmax) (Sk.left_start hr hn0 hmax)
        refine loop_after (i := 2) (by kernel_rfl) (DInv w0 p kb bb c cb ws n' cap k w b (xv.map valU)) (Sk.left (Sk.start n' k w b)) hI ?_
        rintro m a2 w2 ⟨⟨u, xs, hl2, hrow2, hlv, rfl, hrun⟩, hs2, hfr2⟩ Y hY _
        have hm2 : ({ loose := pendL p kb bb c cb ws n' cap k w b u.ak u.ab u.cell u.last u.sum u.over, vecs := [wordsV ws n' cap n' (xs.map u64V)] } : Mem).Met w2 := looks_met_v hl2 (fun x hx => by rw [List.mem_singleton.1 hx]; exact hrow2) (fun x hx g hg => by
          rw [List.mem_singleton.1 hx] at hg
          obtain rfl : ws = g := by simpa [wordsV, Value.ownBlock] using hg
          exact hpl) (List.pairwise_singleton ..)
        cases ho : u.over with
        | true =>
          rw [ho] at hl2 hm2
          refine Seg.wp host2 _ (doneR p kb bb c cb ws n' cap k w b u.ak u.ab u.cell u.last u.sum true n' (xs.map u64V)) doneX1_n (doneX1_1 p kb bb c cb ws n' cap k w b u.ak u.ab u.cell u.last u.sum true n' (xs.map u64V)) (doneX1_2 p kb bb c cb ws n' cap k w b u.ak u.ab u.cell u.last u.sum true n' (xs.map u64V)) (by simp [doneX1_o]) hfr2 hm2 fun ν j a3 w3 hfr3 hp3 => ?_
          have hs3 := sub_two hs2 (post_sub_v (left := (doneX1_o p kb bb c cb ws n' cap k w b u.ak u.ab u.cell u.last u.sum true n' (xs.map u64V) ν j).2.2) hl2 hp3 (.same _)) (fun g i h => by
            rcases h with ⟨x, hx, _⟩ | ⟨x, hx, e⟩
            · cases hx
            · rw [List.mem_singleton.1 hx] at e
              exact .inl (by simpa [wordsV, Value.ownBlock] using e.symm))
          have e3 : Sk.run n' (xv.map valU) (Sk.start n' k w b) = (xs, u) := by rw [hrun, Sk.run_over ho]
          refine ⟨[], rfl, by simp only [doneZ, e3]; rfl, met_plain rfl rfl rfl (fun x hx => ?_) (hs3.mono fun g _ e => ⟨_, List.mem_singleton.2 rfl, by rw [e]; rfl⟩)⟩
          have hx' : x = wordsV ws n' cap n' (xs.map u64V) := by
            have := List.mem_singleton.1 hx
            rw [this]
            simp only [doneZ, e3]
            rfl
          rw [hx']
          exact hp3.vecs _ (List.mem_singleton.2 rfl)
        | false =>
          rw [ho] at hl2 hm2
          obtain ⟨h1, h2, h3⟩ := Sk.step_live (xs := xs) hlv ho hmax
          refine Seg.wp host2 _ (doneR p kb bb c cb ws n' cap k w b u.ak u.ab u.cell u.last u.sum false n' (xs.map u64V)) doneR1_n (doneR1_1 p kb bb c cb ws n' cap k w b u.ak u.ab u.cell u.last u.sum false n' (xs.map u64V)) (doneR1_2 p kb bb c cb ws n' cap k w b u.ak u.ab u.cell u.last u.sum false n' (xs.map u64V)) ?_ hfr2 hm2 fun ν j a3 w3 hfr3 hp3 => ?_
          · have := hlv.cell
            have := hlv.last
            have := hlv.act
            simp [doneR1_o, wordsV, all_u64, *]
            exact ⟨by omega, fun _ _ => rfl⟩
          · have hk : Kept (pendL p kb bb c cb ws n' cap k w b u.ak u.ab u.cell u.last u.sum false) (doneR1_o p kb bb c cb ws n' cap k w b u.ak u.ab u.cell u.last u.sum false n' (xs.map u64V) ν j).2.2.loose [(p, 8, .bool (Sk.step xs u).u.over), (p, 7, .int .u64 (Sk.step xs u).u.sum), (p, 5, .int .i64 (Sk.step xs u).u.cell)] := by
              simp only [doneR1_o, wordsV, map_valU]
              exact .set (.set (.keep (.set (.same _))))
            refine hY _ a3 w3 ?_ ⟨⟨(Sk.step xs u).u, (Sk.step xs u).xs, ?_, ?_, h2, rfl, ?_⟩, ?_, ?_⟩
            · omega
            · have := post_looks_v (left := (doneR1_o p kb bb c cb ws n' cap k w b u.ak u.ab u.cell u.last u.sum false n' (xs.map u64V) ν j).2.2) hl2 hp3 hk
              simp only [doneR1_o, wordsV, map_valU] at this
              exact this
            · have := hp3.vecs _ (List.mem_singleton.2 rfl)
              simp only [doneR1_o, wordsV, map_valU] at this
              exact this
            · rw [hrun, h3, Sk.run_step ho]
            · exact sub_two hs2 (post_sub_v hl2 hp3 hk) (fun g i h => by
                rcases h with ⟨x, hx, e, _⟩ | ⟨x, hx, e⟩
                · right
                  simp only [List.mem_cons, List.not_mem_nil, or_false] at hx
                  rcases hx with rfl | rfl | rfl <;> (rw [← e]; exact g1)
                · rw [List.mem_singleton.1 hx] at e
                  exact .inl (by simpa [wordsV, Value.ownBlock] using e.symm))
            · exact hfr3
  · exact good_fail
end Go.Proofs.YtfdgggikjnoghaaDoor
