/- ShardsPlain: the walk whole. -/
import Derived.Test.YtfdgggikjnoghaaDoorShPB
import Derived.Test.YtfdgggikjnoghaaDoorShQ
namespace Go.Proofs.YtfdgggikjnoghaaDoor.shplain
open Go Sy Close
set_option maxRecDepth 100000
open Sk (RU RGood)
open shst (fB)
open still (step_blk)
theorem body : Tryd.f9.body = some (codeOf Tryd.f9) := by kernel_rfl
theorem ntmps : 3 ≤ Tryd.f9.ntmps := by decide +kernel
def oB (o : Nat) (k w b : Int) : Bks := [(o, 40, [.int .u8 k, .int .i64 w, .int .u64 b])]
theorem wv_len {W w : World} {O : Nat → Prop} {F : Bks} {L : List (Nat × Nat × Value)} {V : List Vec} (h : Res W O F L V w) {ws n : Nat} {xs : List Int} (hm : wordsV ws n n n (xs.map u64V) ∈ V) : xs.length = n := by
  have := (res_len h hm).2.1
  simpa using this
theorem calls {W : World} (n : Int) {oa : Option Addr} {on oc : Nat} {l : List Int} (k wk b : Int) (hl : l.length = on) (hcap : on ≤ oc) (hmax : oc ≤ maxLen) (hel : ∀ i y, l[i]? = some y → Elem W oa 1 i (u64Row y)) (hU : UsesAt W) :
    Calls Tryd.prog 9 #[.int .i64 n, .slice oa on oc, .agg #[.int .u8 k, .int .i64 wk, .int .u64 b]] W (Done W) := by
  have hlu := looksUses hU
  refine calls_after (X := fun _ _ _ => False) Tryd.func9 body ntmps fun a1 ha => ?_
  by_cases h1 : 1 ≤ n ∧ n ≤ 64
  rotate_left
  · refine Res.segV (F := []) (GF := []) (V := []) (GV := []) host5 _ (plA n oa on oc k wk b) plA1_n (plA1_1 n oa on oc k wk b) (plA1_2 n oa on oc k wk b) (Res.start) (hlu) no_old no_ros rfl ?_ (fun _ _ => rfl) (fun _ _ => rfl) ha fun ν j a2 w2 hfr2 hr2 => ?_
    · simp [plA1_o]; omega
    · exact ⟨rfl, res_old hr2⟩
  obtain ⟨n, rfl⟩ : ∃ n' : Nat, n = n' := ⟨n.toNat, by omega⟩
  have hn0 : 0 < n := by omega
  have hn1 : n ≤ 64 := by omega
  have hmn : n ≤ 9223372036854775807 := by omega
  refine Res.segV (F := []) (GF := []) (V := []) (GV := []) host5 _ (plA n oa on oc k wk b) plA2_n (plA2_1 n oa on oc k wk b) (plA2_2 n oa on oc k wk b) (Res.start) (hlu) no_old no_ros rfl ?_ (fun _ _ => rfl) (fun _ _ => rfl) ha fun ν j a2 w2 hfr2 hr2 => ?_
  · simp [plA2_o]; omega
  obtain ⟨o, ho⟩ : ∃ o, o = plA2_o n oa on oc k wk b ν j := ⟨_, rfl⟩
  rw [← ho] at hfr2 hr2
  obtain ⟨ob, ca, ka, wa, cb, kb, wb, e1, e2, e3⟩ : ∃ ob ca ka wa cb kb wb, o.2.1 = plK ob ca cb oa on oc 0 ∧ o.2.2.news = [(kb, 82, [.slice (some ⟨wb, 0, none⟩) n n]), (cb, 77, [ptrV kb]), (ka, 82, [.slice (some ⟨wa, 0, none⟩) n n]), (ca, 77, [ptrV ka])] ++ oB ob k wk b ∧ o.2.2.vecs = [wordsV wa n n n ((List.replicate n (0 : Int)).map u64V), wordsV wb n n n ((List.replicate n (0 : Int)).map u64V)] := by
    rw [ho]; exact ⟨_, _, _, _, _, _, _, rfl, rfl, rfl⟩
  have e4 : o.2.2.blocks = [] := by rw [ho]; rfl
  rw [e1] at hfr2
  rw [e2, e3, e4] at hr2
  have hI : Res W NoOld (cntB ca ka wa n ++ cntB cb kb wb n ++ oB ob k wk b ++ []) [] ([wordsV wa n n n ((List.replicate n (0 : Int)).map u64V), wordsV wb n n n ((List.replicate n (0 : Int)).map u64V)] ++ []) w2 := hr2.perm ((List.reverse_perm [_, _, _, _]).symm.append_right (oB ob k wk b)) (.refl _)
  refine loop_after (i := 8) (by kernel_rfl) (fun d a w => ∃ (i : Nat) (xs : List Int), d = on - i ∧ i ≤ on ∧ Fr Tryd.f9.ntmps (plK ob ca cb oa on oc i) a ∧ Sk.InU xs ∧ Res W NoOld (cntB ca ka wa n ++ cntB cb kb wb n ++ oB ob k wk b ++ []) [] ([wordsV wa n n n (xs.map u64V), wordsV wb n n n (xs.map u64V)] ++ []) w) on ⟨0, _, rfl, Nat.zero_le _, hfr2, Sk.inU_rep n, hI⟩ ?_
  clear hI hr2 hfr2 e1 e2 e3 e4 ho o
  rintro d a3 w3 ⟨i, xs, rfl, hi, hfr3, hin, hr3⟩ Y hY _
  by_cases hlt : i < on
  · obtain ⟨x, hy⟩ : ∃ y, l[i]? = some y := ⟨_, List.getElem?_eq_getElem (by omega)⟩
    have he := hel i _ hy
    obtain ⟨ab, ao, rfl, _⟩ := hel i _ hy
    have hro := ro_elem hU he [(0, .int .u64 x)] (by simp [u64Row]) (by simp)
    have hw := wrap_next hlt hcap hmax
    have hi' : (i : Int) < on := by omega
    have hrt : Sk.right 1 i x = true := by simp [Sk.right, Sk.isOne]
    have hr3' : Res W NoOld ((cntB ca ka wa n ++ cntB cb kb wb n) ++ oB ob k wk b) [] ([wordsV wa n n n (xs.map u64V), wordsV wb n n n (xs.map u64V)] ++ []) w3 := by rw [List.append_nil] at hr3; exact hr3
    refine Res.segV (V := [wordsV wa n n n (xs.map u64V), wordsV wb n n n (xs.map u64V)]) (GV := []) host5 _ (plR ob ca ka wa cb kb wb n ab ao on oc xs i x) plR1_n (plR1_1 ob ca ka wa cb kb wb n ab ao on oc xs i x) (plR1_2 ob ca ka wa cb kb wb n ab ao on oc xs i x) (hr3') (hro) no_old no_ros rfl ?_ (fun _ _ => rfl) (fun _ _ => rfl) hfr3 fun ν j a4 w4 hfr4 hr4 => ?_
    · simp only [plR1_o, all_u64, map_valU, rowNow]
      simp [hi', hlt, hn0, hrt]
    · obtain ⟨o, ho⟩ : ∃ o, o = plR1_o ob ca ka wa cb kb wb n ab ao on oc xs i x ν j := ⟨_, rfl⟩
      rw [← ho] at hfr4 hr4
      have e1 : o.2.1 = plK ob ca cb (some ⟨ab, ao, none⟩) on oc (i + 1) := by rw [ho]; simp only [plR1_o, hw]; rfl
      have e2 : o.2.2.news = [] := by rw [ho]; rfl
      have e3 : o.2.2.blocks = cntB ca ka wa n ++ cntB cb kb wb n := by rw [ho]; rfl
      have e4 : o.2.2.vecs = [wordsV wa n n n ((Sk.run n xs (Sk.start n 1 i x)).1.map u64V), wordsV wb n n n ((Sk.run n xs (Sk.start n 1 i x)).1.map u64V)] := by rw [ho]; simp only [plR1_o, map_valU, rowNow]; rfl
      rw [e1] at hfr4
      rw [e2, e3, e4] at hr4
      refine hY _ a4 w4 (by omega) ⟨i + 1, _, rfl, hlt, hfr4, ?_, by rw [List.append_nil]; exact hr4⟩
      have := Sk.run_prog hn0 hn1 n xs ⟨1, i, x, 0, 0⟩ (Sk.new_good hrt hn0 hn1) hin
      rwa [Sk.prog_new hn0 hn1] at this
  have hd : ¬ (i : Int) < on := by omega
  have hd2 : on ≤ i := by omega
  have hxl : xs.length = n := wv_len hr3 (List.mem_cons_self ..)
  cases hrt : Sk.right k wk b with
  | false =>
    refine Res.segV (V := [wordsV wa n n n (xs.map u64V), wordsV wb n n n (xs.map u64V)]) (GV := []) host5 _ (plX ob ca ka wa cb kb wb n oa on oc xs i k wk b) plX2_n (plX2_1 ob ca ka wa cb kb wb n oa on oc xs i k wk b) (plX2_2 ob ca ka wa cb kb wb n oa on oc xs i k wk b) (hr3) (hlu) no_old no_ros rfl ?_ (fun _ _ => rfl) (fun _ _ => rfl) hfr3 fun ν j a4 w4 hfr4 hr4 => ?_
    · simp only [plX2_o, all_u64, map_valU, rowNow]
      simp [hd2, hn0, hrt]
      try omega
    · refine ⟨?_, res_old hr4⟩
      first | rfl | (simp only [map_valU]; simp)
  | true =>
    refine Res.segV (V := [wordsV wa n n n (xs.map u64V), wordsV wb n n n (xs.map u64V)]) (GV := []) host5 _ (plX ob ca ka wa cb kb wb n oa on oc xs i k wk b) plX1_n (plX1_1 ob ca ka wa cb kb wb n oa on oc xs i k wk b) (plX1_2 ob ca ka wa cb kb wb n oa on oc xs i k wk b) (hr3) (hlu) no_old no_ros rfl ?_ (fun _ _ => rfl) (fun _ _ => rfl) hfr3 fun ν j a4 w4 hfr4 hr4 => ?_
    · simp only [plX1_o, all_u64, map_valU, rowNow]
      simp [hd2, hn0, hrt]
      try omega
    obtain ⟨o, ho⟩ : ∃ o, o = plX1_o ob ca ka wa cb kb wb n oa on oc xs i k wk b ν j := ⟨_, rfl⟩
    rw [← ho] at hfr4 hr4
    obtain ⟨p, kp, bp, e1, e2, e3, e4⟩ : ∃ p kp bp, o.2.1 = plM ob ca cb p 0 false ∧ o.2.2.news = pendB ca k wk b (Sk.akOf k) (Sk.abOf k b) (Sk.cellOf n k wk) (Sk.lastOf n k wk) 0 false p kp bp ∧ o.2.2.blocks = cntB ca ka wa n ++ cntB cb kb wb n ++ oB ob k wk b ∧ o.2.2.vecs = [wordsV wa n n n (xs.map u64V), wordsV wb n n n (xs.map u64V)] := by
      rw [ho]; exact ⟨_, _, _, rfl, rfl, rfl, rfl⟩
    rw [e1] at hfr4
    have hfb : pendB ca k wk b (Sk.akOf k) (Sk.abOf k b) (Sk.cellOf n k wk) (Sk.lastOf n k wk) 0 false p kp bp = fB ca n ⟨k, wk, b, 0, 0⟩ (p, kp, bp) := by
      have : Sk.ended n ⟨k, wk, b, 0, 0⟩ = false := by
        have := (Sk.many_pos (n := n) (k := k) hn0 (by omega)).1
        simp only [Sk.ended, decide_eq_false_iff_not]; omega
      simp only [fB, this, Int.add_zero]
    rw [e2, e3, e4, hfb] at hr4
    have hI : Res W NoOld (cntB ca ka wa n ++ cntB cb kb wb n ++ fB ca n ⟨k, wk, b, 0, 0⟩ (p, kp, bp) ++ oB ob k wk b) [] ([wordsV wa n n n (xs.map u64V), wordsV wb n n n (xs.map u64V)] ++ []) w4 := by
      refine hr4.perm ?_ (.refl _)
      rw [List.append_nil]
      exact (perm3 (fB ca n ⟨k, wk, b, 0, 0⟩ (p, kp, bp)) (cntB ca ka wa n ++ cntB cb kb wb n) (oB ob k wk b)).trans (by rw [List.append_assoc (cntB ca ka wa n ++ cntB cb kb wb n)]; exact perm_in List.perm_append_comm)
    clear hY hfr3 hr3 hr4 e1 e2 e3 e4 ho o
    refine loop_after (i := 17) (by kernel_rfl) (fun d a w => ∃ (st : Nat) (r : RU) (ys : List Int), d = (65536 - r.at_).toNat ∧ (st : Int) ≤ r.at_ ∧ (r.k = k ∧ r.w = wk ∧ r.b = b) ∧ RGood n r ∧ Sk.InU ys ∧ Sk.run n xs (Sk.start n k wk b) = Sk.run (Sk.left (Sk.prog n r)) ys (Sk.prog n r) ∧ Fr Tryd.f9.ntmps (plM ob ca cb p st (Sk.ended n r)) a ∧ Res W NoOld (cntB ca ka wa n ++ cntB cb kb wb n ++ fB ca n r (p, kp, bp) ++ oB ob k wk b) [] ([wordsV wa n n n (ys.map u64V), wordsV wb n n n (xs.map u64V)] ++ []) w) 65536 ⟨0, ⟨k, wk, b, 0, 0⟩, xs, by simp, Int.le_refl _, ⟨rfl, rfl, rfl⟩, Sk.new_good hrt hn0 hn1, hin, ?_, ?_, hI⟩ ?_
    · rw [Sk.prog_new hn0 hn1]
      exact Sk.run_left hmn _ _ _ (Sk.start_live hrt hn0 hmn) (Sk.left_start hrt hn0 hmn)
    · have : Sk.ended n ⟨k, wk, b, 0, 0⟩ = false := by
        have := (Sk.many_pos (n := n) (k := k) hn0 (by omega)).1
        simp only [Sk.ended, decide_eq_false_iff_not]; omega
      rw [this]; exact hfr4
    clear hI hfr4
    rintro d a5 w5 ⟨st, r, ys, rfl, hst, ⟨hk1, hk2, hk3⟩, hg, hin2, hrun, hfr5, hr5⟩ Y hY _
    have hmp := Sk.many_pos (n := n) (k := r.k) hn0 (by omega)
    have hmk : manyOf n r.k ≤ 64 := by unfold manyOf; split <;> omega
    have h0 := hg.at0
    cases hov : Sk.ended n r with
    | false =>
      rw [hov] at hfr5
      have hat := of_decide_eq_false hov
      have hfb2 : fB ca n r (p, kp, bp) = pendB ca r.k r.w r.b (Sk.akOf r.k) (Sk.abOf r.k r.b) (Sk.cellOf n r.k r.w + r.at_) (Sk.lastOf n r.k r.w) r.sum false p kp bp := by rw [← hov]; rfl
      obtain ⟨z1, z2, _, _, z5, z6, z7, z8⟩ := Sk.sim hn0 (by omega) hg hov hin2
      have hcell : Sk.cellOf n r.k r.w + r.at_ = Sk.rcell n r.k r.w r.at_ := Sk.rcell_prog hg hov
      have hact : Sk.okAct (Sk.akOf r.k) (Sk.abOf r.k r.b) = true := (Sk.prog_live hn0 (by omega) hg).act
      have hov2 : decide (IntKind.i64.wrap (Sk.cellOf n r.k r.w + r.at_ + 1) > Sk.lastOf n r.k r.w) = Sk.ended n (Sk.rnext n ys r) := congrArg Sk.SU.over z2
      have hst2 : (st : Int) ≤ 64 := by omega
      have hpF : (cntB ca ka wa n ++ cntB cb kb wb n ++ fB ca n r (p, kp, bp) ++ oB ob k wk b).Perm ((cntB ca ka wa n ++ fB ca n r (p, kp, bp)) ++ (cntB cb kb wb n ++ oB ob k wk b)) := by
        simp only [List.append_assoc]
        refine perm_in ?_
        rw [← List.append_assoc, ← List.append_assoc]
        exact List.perm_append_comm.append_right _
      have hr5' := hr5.perm hpF (.refl _)
      rw [hfb2] at hr5'
      refine Res.segV (V := [wordsV wa n n n (ys.map u64V)]) (GV := [wordsV wb n n n (xs.map u64V)]) host5 _ (plS ob ca ka wa cb n ys st p kp bp r.k r.w r.b (Sk.akOf r.k) (Sk.abOf r.k r.b) (Sk.cellOf n r.k r.w + r.at_) (Sk.lastOf n r.k r.w) r.sum) plS1_n (plS1_1 ob ca ka wa cb n ys st p kp bp r.k r.w r.b (Sk.akOf r.k) (Sk.abOf r.k r.b) (Sk.cellOf n r.k r.w + r.at_) (Sk.lastOf n r.k r.w) r.sum) (plS1_2 ob ca ka wa cb n ys st p kp bp r.k r.w r.b (Sk.akOf r.k) (Sk.abOf r.k r.b) (Sk.cellOf n r.k r.w + r.at_) (Sk.lastOf n r.k r.w) r.sum) hr5' hlu no_old no_ros rfl ?_ (fun _ _ => rfl) (fun _ _ => rfl) hfr5 fun ν j a6 w6 hfr6 hr6 => ?_
      · simp only [plS1_o, all_u64, map_valU]
        simp only [hcell]
        simp [hst2, z7, z8, hact]
        try omega
      · obtain ⟨o, ho⟩ : ∃ o, o = plS1_o ob ca ka wa cb n ys st p kp bp r.k r.w r.b (Sk.akOf r.k) (Sk.abOf r.k r.b) (Sk.cellOf n r.k r.w + r.at_) (Sk.lastOf n r.k r.w) r.sum ν j := ⟨_, rfl⟩
        rw [← ho] at hfr6 hr6
        have hws : IntKind.i64.wrap ((st : Int) + 1) = ((st + 1 : Nat) : Int) := by rw [wrap_i64 (by omega) (by omega)]; simp
        have e1 : o.2.1 = plM ob ca cb p (st + 1) (Sk.ended n (Sk.rnext n ys r)) := by rw [ho, ← hov2]; simp only [plS1_o, hws]; rfl
        have e2 : o.2.2.news = [] := by rw [ho]; rfl
        have e3 : o.2.2.blocks = cntB ca ka wa n ++ fB ca n (Sk.rnext n ys r) (p, kp, bp) := by
          rw [ho, ← step_blk hn0 (by omega) hg hov hin2]
          simp only [plS1_o, map_valU]
          rfl
        have e4 : o.2.2.vecs = [wordsV wa n n n ((Sk.step ys (Sk.prog n r)).xs.map u64V)] := by rw [ho]; simp only [plS1_o, map_valU, rowNow]; rfl
        rw [e1] at hfr6
        rw [e2, e3, e4] at hr6
        have hw1 : (Sk.rnext n ys r).at_ = r.at_ + 1 := Sk.wrap_same (by omega) (by omega)
        obtain ⟨_, s2, s3⟩ := Sk.step_live (xs := ys) (Sk.prog_live hn0 hmn hg) hov hmn
        refine hY _ a6 w6 ?_ ⟨st + 1, Sk.rnext n ys r, _, rfl, by rw [hw1]; omega, ⟨hk1, hk2, hk3⟩, z5, z6, ?_, hfr6, ?_⟩
        · rw [hw1]; omega
        · rw [hrun, s3, Sk.run_step (show (Sk.prog n r).over = false from hov), z2]
        · refine hr6.perm ?_ (.refl _)
          simp only [List.nil_append, List.append_assoc]
          refine perm_in ?_
          rw [← List.append_assoc, ← List.append_assoc]
          exact List.perm_append_comm.append_right _
    | true =>
      rw [hov] at hfr5
      have hend : Sk.run n xs (Sk.start n k wk b) = (ys, Sk.prog n r) := by rw [hrun, Sk.run_over (show (Sk.prog n r).over = true from hov)]
      have hfb2 : fB ca n r (p, kp, bp) = pendB ca r.k r.w r.b (Sk.akOf r.k) (Sk.abOf r.k r.b) (Sk.cellOf n r.k r.w + r.at_) (Sk.lastOf n r.k r.w) r.sum true p kp bp := by rw [← hov]; rfl
      have hyl : ys.length = n := wv_len hr5 (List.mem_cons_self ..)
      rw [hfb2, hk1, hk2, hk3] at hr5
      have hr5' := hr5.perm (F' := (cntB ca ka wa n ++ cntB cb kb wb n ++ pendB ca k wk b (Sk.akOf k) (Sk.abOf k b) (Sk.cellOf n k wk + r.at_) (Sk.lastOf n k wk) r.sum true p kp bp ++ oB ob k wk b) ++ []) (by rw [List.append_nil]) (.refl _)
      have hsum : (Sk.prog n r).sum = r.sum := rfl
      rcases Sk.kinds_of hrt with rfl | rfl | rfl | rfl
      · skip
        refine Res.segV (V := [wordsV wa n n n (ys.map u64V), wordsV wb n n n (xs.map u64V)]) (GV := []) host5 _ (plY ob ca ka wa cb kb wb n ys xs st p kp bp 1 wk b (Sk.akOf 1) (Sk.abOf 1 b) (Sk.cellOf n 1 wk + r.at_) (Sk.lastOf n 1 wk) r.sum) plY1_n (plY1_1 ob ca ka wa cb kb wb n ys xs st p kp bp 1 wk b (Sk.akOf 1) (Sk.abOf 1 b) (Sk.cellOf n 1 wk + r.at_) (Sk.lastOf n 1 wk) r.sum) (plY1_2 ob ca ka wa cb kb wb n ys xs st p kp bp 1 wk b (Sk.akOf 1) (Sk.abOf 1 b) (Sk.cellOf n 1 wk + r.at_) (Sk.lastOf n 1 wk) r.sum) (hr5') (hlu) no_old no_ros rfl ?_ (fun _ _ => rfl) (fun _ _ => rfl) hfr5 fun ν j a6 w6 hfr6 hr6 => ?_
        · simp only [plY1_o, all_u64, map_valU, rowNow, hend]
          simp [hn0, hrt, hsum]
          try omega
        · exact ⟨rfl, res_old hr6⟩
      · obtain rfl : b = 0 := (by simp [Sk.right, Sk.isOne, Sk.isAll] at hrt; omega)
        refine Res.segV (V := [wordsV wa n n n (ys.map u64V), wordsV wb n n n (xs.map u64V)]) (GV := []) host5 _ (plY ob ca ka wa cb kb wb n ys xs st p kp bp 2 wk 0 (Sk.akOf 2) (Sk.abOf 2 0) (Sk.cellOf n 2 wk + r.at_) (Sk.lastOf n 2 wk) r.sum) plY2_n (plY2_1 ob ca ka wa cb kb wb n ys xs st p kp bp 2 wk 0 (Sk.akOf 2) (Sk.abOf 2 0) (Sk.cellOf n 2 wk + r.at_) (Sk.lastOf n 2 wk) r.sum) (plY2_2 ob ca ka wa cb kb wb n ys xs st p kp bp 2 wk 0 (Sk.akOf 2) (Sk.abOf 2 0) (Sk.cellOf n 2 wk + r.at_) (Sk.lastOf n 2 wk) r.sum) (hr5') (hlu) no_old no_ros rfl ?_ (fun _ _ => rfl) (fun _ _ => rfl) hfr5 fun ν j a6 w6 hfr6 hr6 => ?_
        · simp only [plY2_o, all_u64, map_valU, rowNow, hend]
          simp [hn0, hrt, hsum]
          try omega
        · exact ⟨rfl, res_old hr6⟩
      · obtain ⟨rfl, rfl⟩ : wk = 0 ∧ b = 0 := (by simp [Sk.right, Sk.isOne, Sk.isAll] at hrt; omega)
        refine Res.segV (V := [wordsV wa n n n (ys.map u64V), wordsV wb n n n (xs.map u64V)]) (GV := []) host5 _ (plY ob ca ka wa cb kb wb n ys xs st p kp bp 3 0 0 (Sk.akOf 3) (Sk.abOf 3 0) (Sk.cellOf n 3 0 + r.at_) (Sk.lastOf n 3 0) r.sum) plY3_n (plY3_1 ob ca ka wa cb kb wb n ys xs st p kp bp 3 0 0 (Sk.akOf 3) (Sk.abOf 3 0) (Sk.cellOf n 3 0 + r.at_) (Sk.lastOf n 3 0) r.sum) (plY3_2 ob ca ka wa cb kb wb n ys xs st p kp bp 3 0 0 (Sk.akOf 3) (Sk.abOf 3 0) (Sk.cellOf n 3 0 + r.at_) (Sk.lastOf n 3 0) r.sum) (hr5') (hlu) no_old no_ros rfl ?_ (fun _ _ => rfl) (fun _ _ => rfl) hfr5 fun ν j a6 w6 hfr6 hr6 => ?_
        · simp only [plY3_o, all_u64, map_valU, rowNow, hend]
          simp [hn0, hrt, hsum]
          try omega
        · exact ⟨rfl, res_old hr6⟩
      · obtain ⟨rfl, rfl⟩ : wk = 0 ∧ b = 0 := (by simp [Sk.right, Sk.isOne, Sk.isAll] at hrt; omega)
        refine Res.segV (V := [wordsV wa n n n (ys.map u64V), wordsV wb n n n (xs.map u64V)]) (GV := []) host5 _ (plY ob ca ka wa cb kb wb n ys xs st p kp bp 4 0 0 (Sk.akOf 4) (Sk.abOf 4 0) (Sk.cellOf n 4 0 + r.at_) (Sk.lastOf n 4 0) r.sum) plY4_n (plY4_1 ob ca ka wa cb kb wb n ys xs st p kp bp 4 0 0 (Sk.akOf 4) (Sk.abOf 4 0) (Sk.cellOf n 4 0 + r.at_) (Sk.lastOf n 4 0) r.sum) (plY4_2 ob ca ka wa cb kb wb n ys xs st p kp bp 4 0 0 (Sk.akOf 4) (Sk.abOf 4 0) (Sk.cellOf n 4 0 + r.at_) (Sk.lastOf n 4 0) r.sum) (hr5') (hlu) no_old no_ros rfl ?_ (fun _ _ => rfl) (fun _ _ => rfl) hfr5 fun ν j a6 w6 hfr6 hr6 => ?_
        · simp only [plY4_o, all_u64, map_valU, rowNow, hend]
          simp [hn0, hrt, hsum]
          try omega
        · exact ⟨rfl, res_old hr6⟩
end Go.Proofs.YtfdgggikjnoghaaDoor.shplain
