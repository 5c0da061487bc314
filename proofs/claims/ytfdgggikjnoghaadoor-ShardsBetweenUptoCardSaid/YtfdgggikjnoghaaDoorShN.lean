/- ShardsBetween: the walk whole. -/
import Derived.Test.YtfdgggikjnoghaaDoorShNB
import Derived.Test.YtfdgggikjnoghaaDoorShBet
import Derived.Test.YtfdgggikjnoghaaDoorShQ
namespace Go.Proofs.YtfdgggikjnoghaaDoor.between
open Go Sy Close
set_option maxRecDepth 100000
open Sk (RU RGood)
open shst (fB pV oRow)
open still (set_flat step_blk perm_vec)
theorem body : Tryd.f4.body = some (codeOf Tryd.f4) := by kernel_rfl
theorem ntmps : 3 ≤ Tryd.f4.ntmps := by decide +kernel
def boolsV (so : Option Addr) (m co : Nat) (ys : List Value) : Vec := ⟨4, 1, .slice so m co, m, ys⟩
def bgl (us : List RU) : List Value := us.map fun r => boolV (decide (r.at_ ≠ 0))
structure S3 (W : World) (c cb ws n : Nat) (us : List RU) (qs : List (Nat × Nat × Nat)) (sp so : Option Addr) (m cp co : Nat) (xs : List Int) (gl gb gf : Nat) (ls fs : List Int) (ad G B : Int) (w : World) : Prop where
  res : Res W NoOld (cntB c cb ws n ++ famB (fB c n) us qs) [] ([wordsV ws n n n (xs.map u64V)] ++ [ptrs sp m cp (qs.map pV), opsV so m co (us.flatMap oRow), u64sV (some ⟨gl, 0, none⟩) m m (ls.map u64V), boolsV (some ⟨gb, 0, none⟩) m m (bgl us), u64sV (some ⟨gf, 0, none⟩) m m (fs.map u64V)]) w
  lu : us.length = m
  lq : qs.length = m
  bet : Sk.Bet n xs us ls fs ad G B
theorem calls {W : World} (n : Int) {oa : Option Addr} {on oc : Nat} {l : List shop.Op} {sa : Option Addr} {sn sc : Nat} {ks : List Int} (hl : l.length = on) (hcap : on ≤ oc) (hmax : oc ≤ maxLen) (hel : ∀ i y, l[i]? = some y → Elem W oa 3 i y.row)
    (hl2 : ks.length = sn) (hcap2 : sn ≤ sc) (hmax2 : sc ≤ maxLen) (hel2 : ∀ i y, ks[i]? = some y → Elem W sa 1 i (intRow y)) (hb : on ≤ 1048576) (hU : UsesAt W) :
    Calls Tryd.prog 4 #[.int .i64 n, .slice oa on oc, .slice sa sn sc] W (Done W) := by
  have hlu := looksUses hU
  refine calls_after (X := fun _ _ _ => False) Tryd.func4 body ntmps fun a1 ha => ?_
  by_cases h1 : 1 ≤ n ∧ n ≤ 64
  rotate_left
  · by_cases h2 : n < 1
    · refine Res.segV (F := []) (GF := []) (V := []) (GV := []) host5 _ (btA n oa on oc sa sn sc) btA1_n (btA1_1 n oa on oc sa sn sc) (btA1_2 n oa on oc sa sn sc) (Res.start) (hlu) no_old no_ros rfl ?_ (fun _ _ => rfl) (fun _ _ => rfl) ha fun ν j a2 w2 hfr2 hr2 => ?_
      · simp [btA1_o]; omega
      · exact ⟨rfl, res_old hr2⟩
    · refine Res.segV (F := []) (GF := []) (V := []) (GV := []) host5 _ (btA n oa on oc sa sn sc) btA2_n (btA2_1 n oa on oc sa sn sc) (btA2_2 n oa on oc sa sn sc) (Res.start) (hlu) no_old no_ros rfl ?_ (fun _ _ => rfl) (fun _ _ => rfl) ha fun ν j a2 w2 hfr2 hr2 => ?_
      · simp [btA2_o]; omega
      · refine ⟨?_, res_old hr2⟩
        show Ending.returned (.bool (decide (n > 64))) = _
        rw [decide_eq_true (by omega)]
  obtain ⟨n, rfl⟩ : ∃ n' : Nat, n = n' := ⟨n.toNat, by omega⟩
  have hn0 : 0 < n := by omega
  have hn1 : n ≤ 64 := by omega
  refine Res.segV (F := []) (GF := []) (V := []) (GV := []) host5 _ (btA n oa on oc sa sn sc) btA3_n (btA3_1 n oa on oc sa sn sc) (btA3_2 n oa on oc sa sn sc) (Res.start) (hlu) no_old no_ros rfl ?_ (fun _ _ => rfl) (fun _ _ => rfl) ha fun ν j a2 w2 hfr2 hr2 => ?_
  · simp [btA3_o]; omega
  obtain ⟨o, ho⟩ : ∃ o, o = btA3_o n oa on oc sa sn sc ν j := ⟨_, rfl⟩
  rw [← ho] at hfr2 hr2
  obtain ⟨c, cb, ws, e0, e1, e2, e3⟩ : ∃ c cb ws, o.1 = .call 12 #[ptrV c, .slice oa on oc] (some 41) (regAt Tryd.f4 6).1 ((regAt Tryd.f4 6).1.toList.drop 3) (regAt Tryd.f4 6).2 ∧ o.2.1 = [(1, .slice oa on oc), (2, .slice sa sn sc), (7, ptrV c)] ∧ o.2.2.news = [(cb, 82, [.slice (some ⟨ws, 0, none⟩) n n]), (c, 77, [ptrV cb])] ∧ o.2.2.vecs = [wordsV ws n n n ((List.replicate n (0 : Int)).map u64V)] := by
    rw [ho]; exact ⟨_, _, _, rfl, rfl, rfl, rfl⟩
  have e4 : o.2.2.blocks = [] := by rw [ho]; rfl
  rw [← ho, e0]
  rw [e1] at hfr2
  rw [e2, e3, e4] at hr2
  have hres : Res W NoOld (cntB c cb ws n ++ []) [] [wordsV ws n n n ((List.replicate n (0 : Int)).map u64V)] w2 := hr2.perm (List.Perm.swap ..) (.refl _)
  refine (shst.started hl hcap hmax hel hb hn0 hn1 hres).mono ?_
  rintro e w3 ⟨us, qs, sp, so, m, cp, co, rfl, hmo, hS⟩
  refine ⟨_, rfl, ?_⟩
  have hfr3 := hfr2.put (d := 41) (v := .tuple #[.slice sp m cp, .slice so m co]) (by decide +kernel) [(2, .slice sa sn sc), (7, ptrV c)] (by simp) (by simp)
  have hres3 : Res W NoOld (cntB c cb ws n ++ famB (fB c n) us qs) [] ([wordsV ws n n n ((List.replicate n (0 : Int)).map u64V)] ++ [ptrs sp m cp (qs.map pV), opsV so m co (us.flatMap oRow)]) w3 := by
    have := hS.res
    rw [List.append_nil] at this
    exact this.perm (.refl _) (perm_vec _ _ _)
  have hlu3 := hS.lu
  have hlq3 := hS.lq
  have hgd := hS.good
  clear hS
  refine Res.segV (F := []) (V := []) host5 _ (btB c sa sn sc sp so m cp co) btB1_n (btB1_1 c sa sn sc sp so m cp co) (btB1_2 c sa sn sc sp so m cp co) (hres3) (Looks.nil W) no_old no_ros rfl ?_ (fun _ _ => rfl) (fun _ _ => rfl) hfr3 fun ν j a4 w4 hfr4 hr4 => ?_
  · simp [btB1_o]
  have hmb : m ≤ 1048576 := by omega
  have hfr4 : Fr Tryd.f4.ntmps (btL c sa sn sc sp so m cp co 0 0) a4 := hfr4
  have hw0 : ∀ {i : Nat}, i < m → IntKind.i64.wrap ((i : Int) + 1) = ((i + 1 : Nat) : Int) := fun {i} hi => by rw [wrap_i64 (by omega) (by omega)]; simp
  have hr4' : Res W NoOld (cntB c cb ws n ++ famB (fB c n) us qs) [] ([wordsV ws n n n ((List.replicate n (0 : Int)).map u64V)] ++ [ptrs sp m cp (qs.map pV), opsV so m co (us.flatMap oRow)]) w4 := hr4
  -- what is handed in is not too much
  refine loop_after (i := 9) (by kernel_rfl) (fun d a w => ∃ (i : Nat), d = m - i ∧ i ≤ m ∧ (∀ r ∈ us.take i, r.k ≠ 4) ∧ Sk.rest (us.take i) < 18446744073709551616 ∧ Fr Tryd.f4.ntmps (btL c sa sn sc sp so m cp co (Sk.rest (us.take i)) i) a ∧ Res W NoOld (cntB c cb ws n ++ famB (fB c n) us qs) [] ([wordsV ws n n n ((List.replicate n (0 : Int)).map u64V)] ++ [ptrs sp m cp (qs.map pV), opsV so m co (us.flatMap oRow)]) w) m ⟨0, rfl, Nat.zero_le _, by simp, by simp [Sk.rest], hfr4, hr4'⟩ ?_
  clear hfr4 hr4 hr4' hres3 hfr3 hres hr2 hfr2 e0 e1 e2 e3 e4 ho o
  rintro d a5 w5 ⟨i, rfl, hi, hk4, hall, hfr5, hr5⟩ Y hY _
  by_cases hlt : i < m
  · obtain ⟨r, hr⟩ : ∃ r, us[i]? = some r := ⟨_, List.getElem?_eq_getElem (by rw [hlu3]; exact hlt)⟩
    obtain ⟨hg, ha0, hs0⟩ := hgd r (List.mem_of_getElem? hr)
    obtain ⟨_, _, hso⟩ := res_len hr5 (List.mem_cons_of_mem _ (List.mem_cons_of_mem _ (List.mem_cons_self ..)))
    obtain ⟨go, rfl⟩ := hso (by omega)
    have hi' : (i : Int) < m := by omega
    have ops : ∀ o ∈ ([⟨opsV (some ⟨go, 0, none⟩) m co (us.flatMap oRow), go, elC 3 i [(0, .int .u8 r.k), (2, .int .u64 r.b)]⟩] : List Sy.Open), OpenOk o := opens_cons (open_row ⟨_, _, rfl⟩ rfl shst.oRow_len hr (by simp [oRow]) (by simp)) opens_nil
    have hres : Res W NoOld ([] ++ (cntB c cb ws n ++ famB (fB c n) us qs)) [] ([] ++ ([opsV (some ⟨go, 0, none⟩) m co (us.flatMap oRow)] ++ [wordsV ws n n n ((List.replicate n (0 : Int)).map u64V), ptrs sp m cp (qs.map pV)])) w5 := hr5.perm (.refl _) (perm_vec _ _ _)
    have hβ : r.k ≠ 1 → r.b = 0 := fun hk => by
      have hrt := hg.right
      rcases Sk.kinds_of hrt with h | h | h | h
      · exact absurd h hk
      all_goals (simp [Sk.right, Sk.isOne, Sk.isAll, h] at hrt; omega)
    have hsn : Sk.rest (us.take (i + 1)) = Sk.rest (us.take i) + Sk.w64 r.b := by
      rw [List.take_add_one, hr]
      simp only [Option.toList_some]
      rw [Sk.rest_snoc]
      by_cases hk : r.k = 1
      · rw [if_pos ⟨hk, ha0⟩]
      · rw [if_neg (fun h => hk h.1), hβ hk]
        simp [Sk.w64_eq]
    have hw64 := Sk.w64_range r.b
    have hrn := Sk.rest_nonneg (us.take i)
    obtain ⟨al, hal⟩ : ∃ al, al = Sk.rest (us.take i) := ⟨_, rfl⟩
    rw [← hal] at hfr5 hall hsn hrn
    have hadd : IntKind.u64.wrap (al + r.b) = (al + Sk.w64 r.b) % 18446744073709551616 := by
      have := Sk.w64_eq (al + r.b)
      have := Sk.w64_eq r.b
      unfold Sk.w64 at *
      omega
    by_cases h4 : r.k = 4
    · refine Res.segO (F := []) (V := []) host5 _ (btC c sa sn sc sp go m cp co al i r.k r.b) btC1_n (btC1_1 c sa sn sc sp go m cp co al i r.k r.b) (btC1_2 c sa sn sc sp go m cp co al i r.k r.b) _ (hres) (ops) (Looks.nil W) no_old no_ros rfl ?_ (fun _ _ => rfl) (fun _ _ => rfl) (fun _ _ => rfl) hfr5 fun ν j a6 w6 hfr6 hr6 => ?_
      · simp [btC1_o, hi', hlt, h4]
      · exact ⟨rfl, res_old hr6⟩
    by_cases hov : 18446744073709551616 ≤ al + Sk.w64 r.b
    · refine Res.segO (F := []) (V := []) host5 _ (btC c sa sn sc sp go m cp co al i r.k r.b) btC2_n (btC2_1 c sa sn sc sp go m cp co al i r.k r.b) (btC2_2 c sa sn sc sp go m cp co al i r.k r.b) _ (hres) (ops) (Looks.nil W) no_old no_ros rfl ?_ (fun _ _ => rfl) (fun _ _ => rfl) (fun _ _ => rfl) hfr5 fun ν j a6 w6 hfr6 hr6 => ?_
      · simp only [btC2_o, hadd]
        simp [hi', hlt, h4]; omega
      · exact ⟨rfl, res_old hr6⟩
    · refine Res.segO (F := []) (V := []) host5 _ (btC c sa sn sc sp go m cp co al i r.k r.b) btC3_n (btC3_1 c sa sn sc sp go m cp co al i r.k r.b) (btC3_2 c sa sn sc sp go m cp co al i r.k r.b) _ (hres) (ops) (Looks.nil W) no_old no_ros rfl ?_ (fun _ _ => rfl) (fun _ _ => rfl) (fun _ _ => rfl) hfr5 fun ν j a6 w6 hfr6 hr6 => ?_
      · simp only [btC3_o, hadd]
        simp [hi', hlt, h4]; omega
      · obtain ⟨o, ho⟩ : ∃ o, o = btC3_o c sa sn sc sp go m cp co al i r.k r.b ν j := ⟨_, rfl⟩
        rw [← ho] at hfr6 hr6
        have e1 : o.2.1 = btL c sa sn sc sp (some ⟨go, 0, none⟩) m cp co (Sk.rest (us.take (i + 1))) (i + 1) := by
          rw [ho, hsn, show al + Sk.w64 r.b = (al + Sk.w64 r.b) % 18446744073709551616 by omega, ← hadd]
          simp only [btC3_o, hw0 hlt]
          rfl
        have e2 : o.2.2.news = [] := by rw [ho]; rfl
        have e3 : o.2.2.blocks = [] := by rw [ho]; rfl
        have e4 : o.2.2.vecs = [] := by rw [ho]; rfl
        have e5 : reV [⟨opsV (some ⟨go, 0, none⟩) m co (us.flatMap oRow), go, elC 3 i [(0, .int .u8 r.k), (2, .int .u64 r.b)]⟩] o.2.2.loose = [opsV (some ⟨go, 0, none⟩) m co (us.flatMap oRow)] := by
          rw [show o.2.2.loose = opL go (elC 3 i [(0, .int .u8 r.k), (2, .int .u64 r.b)]) [] by rw [ho]; rfl]
          simp only [reV, opsV]
          rw [reL_row (u := r) (u' := r) shst.oRow_len hr (by simp) rfl, set_same hr]
        rw [e1] at hfr6
        rw [e2, e3, e4, e5] at hr6
        refine hY _ a6 w6 (by omega) ⟨i + 1, rfl, hlt, fun r' hm => ?_, by rw [hsn]; omega, hfr6, hr6.perm (.refl _) (perm_vec _ _ _).symm⟩
        rw [List.take_add_one, hr] at hm
        rcases List.mem_append.1 hm with hm | hm
        · exact hk4 r' hm
        · rw [show r' = r by simpa using hm]; exact h4
  have hd : ¬ (i : Int) < m := by omega
  have htk : us.take i = us := List.take_of_length_le (by rw [hlu3]; omega)
  rw [htk] at hk4 hall hfr5
  refine Res.segV (F := []) (V := []) host5 _ (btD c sa sn sc sp so m cp co (Sk.rest us) i) btD1_n (btD1_1 c sa sn sc sp so m cp co (Sk.rest us) i) (btD1_2 c sa sn sc sp so m cp co (Sk.rest us) i) (hr5) (Looks.nil W) no_old no_ros rfl ?_ (fun _ _ => rfl) (fun _ _ => rfl) hfr5 fun ν j a6 w6 hfr6 hr6 => ?_
  · simp [btD1_o, hd, maxLen]
    exact ⟨decide_eq_true (by omega), by omega, decide_eq_true (by omega), by omega, decide_eq_true (by omega), by omega⟩
  obtain ⟨gl, gb, gf, e1, e2, e3⟩ : ∃ gl gb gf, (btD1_o c sa sn sc sp so m cp co (Sk.rest us) i ν j).2.1 = btK c sa sn sc sp so m cp co gl gb gf 0 0 0 ∧ (btD1_o c sa sn sc sp so m cp co (Sk.rest us) i ν j).2.2.news = [] ∧ (btD1_o c sa sn sc sp so m cp co (Sk.rest us) i ν j).2.2.vecs = [u64sV (some ⟨gl, 0, none⟩) m m (madeCells (Value.cells (.int .u64 0)) (m * 1)).toList, boolsV (some ⟨gb, 0, none⟩) m m (madeCells (Value.cells (.bool false)) (m * 1)).toList, u64sV (some ⟨gf, 0, none⟩) m m (madeCells (Value.cells (.int .u64 0)) (m * 1)).toList] := ⟨_, _, _, rfl, rfl, rfl⟩
  rw [e1] at hfr6
  rw [e2, e3, Nat.mul_one, show (Value.cells (.int .u64 0)) = #[.int .u64 0] from rfl, show (Value.cells (.bool false)) = #[.bool false] from rfl, toList_madeCells_one, toList_madeCells_one] at hr6
  have hm0 : ∀ z : Int, List.replicate m (Value.int .u64 z) = (List.replicate m z).map u64V := fun z => (List.map_replicate ..).symm
  have hS6 : S3 W c cb ws n us qs sp so m cp co (List.replicate n 0) gl gb gf (List.replicate m 0) (List.replicate m 0) 0 0 (Sk.rest us) w6 := by
    refine ⟨?_, hlu3, hlq3, ?_⟩
    · have hbg : bgl us = List.replicate m (.bool false) := by
        refine List.ext_getElem (by simp [bgl, hlu3]) (fun j h1 h2 => ?_)
        simp only [bgl, List.getElem_map, List.getElem_replicate]
        have hj : j < us.length := by simpa [bgl] using h1
        have := (hgd us[j] (List.getElem_mem hj)).2.1
        simp [this, boolV]
      rw [hbg, ← hm0]
      refine hr6.perm (.refl _) ?_
      exact (perm3 [_, _, _] [_] [_, _]).trans (.refl _)
    · refine ⟨by simp, by simp [hlu3], by simp [hlu3], fun x hx => by rw [(List.mem_replicate.1 hx).2]; exact Int.le_refl _, Sk.tot_rep n, by omega, hall, Int.le_refl _, fun r hr => ⟨(hgd r hr).1, hk4 r hr⟩, fun j r hr hk => ?_⟩
      obtain ⟨_, a0, s0⟩ := hgd r (List.mem_of_getElem? hr)
      refine ⟨by rw [s0]; exact Int.le_refl _, by rw [s0, a0]; simp [Sk.tot], fun hh => absurd a0 hh⟩
  refine loop_after (i := 20) (by kernel_rfl) (fun d a w => ∃ (i : Nat) (us : List RU) (xs ls fs : List Int) (ad G B : Int), d = sn - i ∧ i ≤ sn ∧ Fr Tryd.f4.ntmps (btK c sa sn sc sp so m cp co gl gb gf ad G i) a ∧ S3 W c cb ws n us qs sp so m cp co xs gl gb gf ls fs ad G B w) sn ⟨0, us, _, _, _, 0, 0, _, rfl, Nat.zero_le _, hfr6, hS6⟩ ?_
  clear hS6 hr6 hfr6 e1 e2 e3 hr5 hfr5 hall hk4 htk hd hi hgd hlu3 hlq3 hY
  rintro d a7 w7 ⟨i, us, xs, ls, fs, ad, G, B, rfl, hi, hfr7, hI⟩ Y hY _
  by_cases hlt : i < sn
  rotate_left
  · have hd : ¬ (i : Int) < sn := by omega
    refine Res.segV (F := []) (V := []) host5 _ (btY c sa sn sc sp so m cp co gl gb gf ad G i) btY1_n (btY1_1 c sa sn sc sp so m cp co gl gb gf ad G i) (btY1_2 c sa sn sc sp so m cp co gl gb gf ad G i) (hI.res) (Looks.nil W) no_old no_ros rfl ?_ (fun _ _ => rfl) (fun _ _ => rfl) hfr7 fun ν j a8 w8 hfr8 hr8 => ?_
    · simp [btY1_o, hd]
    · exact ⟨rfl, res_old hr8⟩
  obtain ⟨kv, hk⟩ : ∃ k, ks[i]? = some k := ⟨_, List.getElem?_eq_getElem (by omega)⟩
  have he := hel2 i kv hk
  obtain ⟨sb, sf, rfl, _⟩ := hel2 i kv hk
  have hro := ro_elem hU he [(0, .int .i64 kv)] (by simp [intRow]) (by simp)
  have hw := wrap_next hlt hcap2 hmax2
  have hi' : (i : Int) < sn := by omega
  by_cases hk0 : kv < 0
  · refine Res.segV (F := []) (V := []) host5 _ (btN c sb sf sn sc sp so m cp co gl gb gf ad G i kv) btN1_n (btN1_1 c sb sf sn sc sp so m cp co gl gb gf ad G i kv) (btN1_2 c sb sf sn sc sp so m cp co gl gb gf ad G i kv) (hI.res) (hro) no_old no_ros rfl ?_ (fun _ _ => rfl) (fun _ _ => rfl) hfr7 fun ν j a8 w8 hfr8 hr8 => ?_
    · simp [btN1_o, hlt, hk0]
    · simp only [btN1_o, hw] at hfr8
      exact hY (sn - (i + 1)) a8 w8 (by omega) ⟨i + 1, us, xs, ls, fs, ad, G, B, rfl, hlt, hfr8, hr8, hI.lu, hI.lq, hI.bet⟩
  by_cases hkm : kv ≥ m
  · refine Res.segV (F := []) (V := []) host5 _ (btN c sb sf sn sc sp so m cp co gl gb gf ad G i kv) btN2_n (btN2_1 c sb sf sn sc sp so m cp co gl gb gf ad G i kv) (btN2_2 c sb sf sn sc sp so m cp co gl gb gf ad G i kv) (hI.res) (hro) no_old no_ros rfl ?_ (fun _ _ => rfl) (fun _ _ => rfl) hfr7 fun ν j a8 w8 hfr8 hr8 => ?_
    · simp [btN2_o, hlt]; omega
    · simp only [btN2_o, hw] at hfr8
      exact hY (sn - (i + 1)) a8 w8 (by omega) ⟨i + 1, us, xs, ls, fs, ad, G, B, rfl, hlt, hfr8, hr8, hI.lu, hI.lq, hI.bet⟩
  obtain ⟨q, rfl⟩ : ∃ q : Nat, kv = q := ⟨kv.toNat, by omega⟩
  have hqm : q < m := by omega
  have hqm' : (q : Int) < m := by omega
  have hqm2 : ¬ (m : Int) ≤ q := by omega
  obtain ⟨r, hr⟩ : ∃ r, us[q]? = some r := ⟨_, List.getElem?_eq_getElem (by rw [hI.lu]; exact hqm)⟩
  obtain ⟨⟨p, kb, bb⟩, hp⟩ : ∃ z, qs[q]? = some z := ⟨_, List.getElem?_eq_getElem (by rw [hI.lq]; exact hqm)⟩
  obtain ⟨hg, hk4⟩ := hI.bet.good r (List.mem_of_getElem? hr)
  obtain ⟨le, hle⟩ : ∃ z, ls[q]? = some z := ⟨_, List.getElem?_eq_getElem (by rw [hI.bet.lls, hI.lu]; exact hqm)⟩
  obtain ⟨fl, hfl⟩ : ∃ z, fs[q]? = some z := ⟨_, List.getElem?_eq_getElem (by rw [hI.bet.lfs, hI.lu]; exact hqm)⟩
  have hgle : ls.getD q 0 = le := by rw [List.getD_eq_getElem?_getD, hle]; rfl
  have hgfl : fs.getD q 0 = fl := by rw [List.getD_eq_getElem?_getD, hfl]; rfl
  obtain ⟨_, _, hsp⟩ := res_len hI.res (List.mem_cons_of_mem _ (List.mem_cons_self ..))
  obtain ⟨gp, rfl⟩ := hsp (by omega)
  obtain ⟨_, _, hso⟩ := res_len hI.res (List.mem_cons_of_mem _ (List.mem_cons_of_mem _ (List.mem_cons_self ..)))
  obtain ⟨go, rfl⟩ := hso (by omega)
  have hpq : (qs.map pV)[q]? = some (ptrV p) := by rw [List.getElem?_map, hp]; rfl
  have hlq : (ls.map u64V)[q]? = some (.int .u64 le) := by rw [List.getElem?_map, hle]; rfl
  have hfq : (fs.map u64V)[q]? = some (.int .u64 fl) := by rw [List.getElem?_map, hfl]; rfl
  have hbq : (bgl us)[q]? = some (.bool (decide (r.at_ ≠ 0))) := by rw [bgl, List.getElem?_map, hr]; rfl
  obtain ⟨OP, hOP⟩ : ∃ OP : List Sy.Open, OP = [⟨ptrs (some ⟨gp, 0, none⟩) m cp (qs.map pV), gp, elC 1 q [(0, ptrV p)]⟩, ⟨opsV (some ⟨go, 0, none⟩) m co (us.flatMap oRow), go, elC 3 q [(0, .int .u8 r.k), (1, .int .i64 r.w), (2, .int .u64 r.b)]⟩, ⟨u64sV (some ⟨gl, 0, none⟩) m m (ls.map u64V), gl, elC 1 q [(0, .int .u64 le)]⟩, ⟨boolsV (some ⟨gb, 0, none⟩) m m (bgl us), gb, elC 1 q [(0, .bool (decide (r.at_ ≠ 0)))]⟩, ⟨u64sV (some ⟨gf, 0, none⟩) m m (fs.map u64V), gf, elC 1 q [(0, .int .u64 fl)]⟩] := ⟨_, rfl⟩
  have e1c : ∀ v, elC 1 q [(0, v)] = [(q, v)] := fun v => by simp [elC, smul_eq]
  have ops : ∀ o ∈ OP, OpenOk o := by
    rw [hOP]
    refine opens_cons (e1c _ ▸ open_one ⟨_, _, rfl⟩ hpq) (opens_cons (open_row ⟨_, _, rfl⟩ rfl shst.oRow_len hr (by simp [oRow]) (by simp)) (opens_cons (e1c _ ▸ open_one ⟨_, _, rfl⟩ hlq) (opens_cons (e1c _ ▸ open_one ⟨_, _, rfl⟩ hbq) (opens_cons (e1c _ ▸ open_one ⟨_, _, rfl⟩ hfq) opens_nil))))
  have re : ∀ (l0 : List (Nat × Nat × Value)) (v w u : Value) {l : List (Nat × Nat × Value)}, l = (gp, smul q 1 + 0, ptrV p) :: (go, smul q 3 + 0, .int .u8 r.k) :: (go, smul q 3 + 1, .int .i64 r.w) :: (go, smul q 3 + 2, .int .u64 r.b) :: (gl, smul q 1 + 0, v) :: (gb, smul q 1 + 0, w) :: (gf, smul q 1 + 0, u) :: l0 →
      reV OP l = [ptrs (some ⟨gp, 0, none⟩) m cp (qs.map pV), opsV (some ⟨go, 0, none⟩) m co (us.flatMap oRow), u64sV (some ⟨gl, 0, none⟩) m m ((ls.map u64V).set q v), boolsV (some ⟨gb, 0, none⟩) m m ((bgl us).set q w), u64sV (some ⟨gf, 0, none⟩) m m ((fs.map u64V).set q u)] := fun l0 v w u l hl => by
    subst hl
    rw [hOP]
    simp only [reV, ptrs, opsV, u64sV, boolsV]
    simp only [elC, reR, reL, smul_eq, Nat.mul_one, Nat.add_zero, set_same hpq]
    have := reL_row (ps := [(0, .int .u8 r.k), (1, .int .i64 r.w), (2, .int .u64 r.b)]) (u' := r) (l := [(go, smul q 3 + 0, .int .u8 r.k), (go, smul q 3 + 1, .int .i64 r.w), (go, smul q 3 + 2, .int .u64 r.b)]) shst.oRow_len hr (by simp) rfl
    rw [set_same hr] at this
    simp only [elC, reL, smul_eq, Nat.add_zero] at this
    simp only [this]
  have hF : Res W NoOld ((cntB c cb ws n ++ fB c n r (p, kb, bb)) ++ famB (fB c n) (us.eraseIdx q) (qs.eraseIdx q)) [] ([wordsV ws n n n (xs.map u64V)] ++ (opX OP ++ [])) w7 := by
    rw [hOP]
    exact hI.res.perm (by rw [List.append_assoc]; exact perm_in (famB_focus hr hp)) (.refl _)
  subst hOP
  cases hov : Sk.ended n r with
  | true =>
    have hfb : fB c n r (p, kb, bb) = pendB c r.k r.w r.b (Sk.akOf r.k) (Sk.abOf r.k r.b) (Sk.cellOf n r.k r.w + r.at_) (Sk.lastOf n r.k r.w) r.sum true p kb bb := by rw [← hov]; rfl
    refine Res.segO (F := cntB c cb ws n ++ pendB c r.k r.w r.b (Sk.akOf r.k) (Sk.abOf r.k r.b) (Sk.cellOf n r.k r.w + r.at_) (Sk.lastOf n r.k r.w) r.sum true p kb bb) (V := [wordsV ws n n n (xs.map u64V)]) host5 _ (btS c cb ws n sb sf sn sc gp go m cp co gl gb gf ad G xs i q le fl (decide (r.at_ ≠ 0)) p kb bb r.k r.w r.b (Sk.akOf r.k) (Sk.abOf r.k r.b) (Sk.cellOf n r.k r.w + r.at_) (Sk.lastOf n r.k r.w) r.sum true) btS1_n (btS1_1 c cb ws n sb sf sn sc gp go m cp co gl gb gf ad G xs i q le fl (decide (r.at_ ≠ 0)) p kb bb r.k r.w r.b (Sk.akOf r.k) (Sk.abOf r.k r.b) (Sk.cellOf n r.k r.w + r.at_) (Sk.lastOf n r.k r.w) r.sum true) (btS1_2 c cb ws n sb sf sn sc gp go m cp co gl gb gf ad G xs i q le fl (decide (r.at_ ≠ 0)) p kb bb r.k r.w r.b (Sk.akOf r.k) (Sk.abOf r.k r.b) (Sk.cellOf n r.k r.w + r.at_) (Sk.lastOf n r.k r.w) r.sum true) _ (hfb ▸ hF) (ops) (hro) no_old no_ros rfl ?_ (fun _ _ => rfl) (fun _ _ => rfl) (fun _ _ => rfl) hfr7 fun ν j a8 w8 hfr8 hr8 => ?_
    · simp [btS1_o, hqm', hqm2, hi', hlt]
    · obtain ⟨o, ho⟩ : ∃ o, o = btS1_o c cb ws n sb sf sn sc gp go m cp co gl gb gf ad G xs i q le fl (decide (r.at_ ≠ 0)) p kb bb r.k r.w r.b (Sk.akOf r.k) (Sk.abOf r.k r.b) (Sk.cellOf n r.k r.w + r.at_) (Sk.lastOf n r.k r.w) r.sum true ν j := ⟨_, rfl⟩
      rw [← ho] at hfr8 hr8
      have e1 : o.2.1 = btK c (some ⟨sb, sf, none⟩) sn sc (some ⟨gp, 0, none⟩) (some ⟨go, 0, none⟩) m cp co gl gb gf ad G (i + 1) := by rw [ho]; simp only [btS1_o, hw]; rfl
      have e2 : o.2.2.news = [] := by rw [ho]; rfl
      have e3 : o.2.2.blocks = cntB c cb ws n ++ fB c n r (p, kb, bb) := by rw [ho, hfb]; rfl
      have e4 : o.2.2.vecs = [wordsV ws n n n (xs.map u64V)] := by rw [ho]; rfl
      have e5 := re (elemL sb sf 1 i [(0, .int .i64 q)] usesC) _ _ _ (l := o.2.2.loose) (by rw [ho]; rfl)
      rw [e1] at hfr8
      rw [e2, e3, e4, e5, set_same hlq, set_same hbq, set_same hfq, List.nil_append, List.append_assoc] at hr8
      exact hY (sn - (i + 1)) a8 w8 (by omega) ⟨i + 1, us, xs, ls, fs, ad, G, B, rfl, hlt, hfr8, hr8.perm (perm_in (famB_focus hr hp)).symm (.refl _), hI.lu, hI.lq, hI.bet⟩
  | false =>
    have hfb : fB c n r (p, kb, bb) = pendB c r.k r.w r.b (Sk.akOf r.k) (Sk.abOf r.k r.b) (Sk.cellOf n r.k r.w + r.at_) (Sk.lastOf n r.k r.w) r.sum false p kb bb := by rw [← hov]; rfl
    obtain ⟨z1, z2, z3, z4, z5, _, z7, z8⟩ := Sk.sim hn0 (by omega) hg hov hI.bet.inU
    have hcell : Sk.cellOf n r.k r.w + r.at_ = Sk.rcell n r.k r.w r.at_ := Sk.rcell_prog hg hov
    have hact : Sk.okAct (Sk.akOf r.k) (Sk.abOf r.k r.b) = true := (Sk.prog_live hn0 (by omega) hg).act
    have hov2 : decide (IntKind.i64.wrap (Sk.cellOf n r.k r.w + r.at_ + 1) > Sk.lastOf n r.k r.w) = Sk.ended n (Sk.rnext n xs r) := congrArg Sk.SU.over z2
    have hsumE : Sk.sumOf (Sk.akOf r.k) r.sum (Sk.sawOf (Sk.akOf r.k) (Sk.abOf r.k r.b) (seeAt xs (Sk.rcell n r.k r.w r.at_))) (Sk.putOf (Sk.akOf r.k) (Sk.abOf r.k r.b) (seeAt xs (Sk.rcell n r.k r.w r.at_))) = (Sk.rnext n xs r).sum := by
      have := congrArg Sk.SU.sum z2
      simp only [Sk.step] at this
      rw [show (Sk.prog n r).cell = Sk.rcell n r.k r.w r.at_ from hcell] at this
      exact this
    have hat := of_decide_eq_false hov
    have hg0 := hg.at0
    have hmp := shst.many_pos' hn0 hn1 (k := r.k)
    have hw1 : (Sk.rnext n xs r).at_ = r.at_ + 1 := Sk.wrap_same (by omega) (by omega)
    have hbg : (bgl us).set q (.bool true) = bgl (us.set q (Sk.rnext n xs r)) := by
      simp only [bgl, List.map_set, hw1]
      congr 1
      simp [boolV]; omega
    have fin : ∀ {o : Fin × List (Nat × Value) × Sy.Left} {a8 : Act} {w8 : World} {ad' G' : Int} {ls' fs' : List Int} {v w u : Value} {l0 : List (Nat × Nat × Value)}, Fr Tryd.f4.ntmps o.2.1 a8 → Res W NoOld (o.2.2.news ++ (o.2.2.blocks ++ famB (fB c n) (us.eraseIdx q) (qs.eraseIdx q))) [] (o.2.2.vecs ++ (reV [⟨ptrs (some ⟨gp, 0, none⟩) m cp (qs.map pV), gp, elC 1 q [(0, ptrV p)]⟩, ⟨opsV (some ⟨go, 0, none⟩) m co (us.flatMap oRow), go, elC 3 q [(0, .int .u8 r.k), (1, .int .i64 r.w), (2, .int .u64 r.b)]⟩, ⟨u64sV (some ⟨gl, 0, none⟩) m m (ls.map u64V), gl, elC 1 q [(0, .int .u64 le)]⟩, ⟨boolsV (some ⟨gb, 0, none⟩) m m (bgl us), gb, elC 1 q [(0, .bool (decide (r.at_ ≠ 0)))]⟩, ⟨u64sV (some ⟨gf, 0, none⟩) m m (fs.map u64V), gf, elC 1 q [(0, .int .u64 fl)]⟩] o.2.2.loose ++ [])) w8 →
        o.2.1 = btK c (some ⟨sb, sf, none⟩) sn sc (some ⟨gp, 0, none⟩) (some ⟨go, 0, none⟩) m cp co gl gb gf ad' G' (i + 1) → o.2.2.news = [] → o.2.2.blocks = cntB c cb ws n ++ fB c n (Sk.rnext n xs r) (p, kb, bb) → o.2.2.vecs = [wordsV ws n n n ((Sk.step xs (Sk.prog n r)).xs.map u64V)] →
        o.2.2.loose = (gp, smul q 1 + 0, ptrV p) :: (go, smul q 3 + 0, .int .u8 r.k) :: (go, smul q 3 + 1, .int .i64 r.w) :: (go, smul q 3 + 2, .int .u64 r.b) :: (gl, smul q 1 + 0, v) :: (gb, smul q 1 + 0, w) :: (gf, smul q 1 + 0, u) :: l0 →
        (ls.map u64V).set q v = ls'.map u64V → (bgl us).set q w = bgl (us.set q (Sk.rnext n xs r)) → (fs.map u64V).set q u = fs'.map u64V → Sk.Bet n (Sk.step xs (Sk.prog n r)).xs (us.set q (Sk.rnext n xs r)) ls' fs' ad' G' B → Y 20 a8 w8 := fun {o a8 w8 ad' G' ls' fs' v w u l0} hfr8 hr8 e1 e2 e3 e4 e5 q1 q2 q3 hB => by
      rw [e1] at hfr8
      rw [e2, e3, e4, re l0 v w u e5, q1, q2, q3, List.nil_append, List.append_nil, List.append_assoc] at hr8
      refine hY (sn - (i + 1)) a8 w8 (by omega) ⟨i + 1, us.set q (Sk.rnext n xs r), _, ls', fs', ad', G', B, rfl, hlt, hfr8, ⟨?_, by rw [List.length_set]; exact hI.lu, hI.lq, hB⟩⟩
      rw [set_flat (r' := Sk.rnext n xs r) hr rfl]
      exact hr8.perm (perm_in (famB_set hr hp)) (.refl _)
    by_cases ha : r.at_ = 0
    · have hdec : decide (r.at_ ≠ 0) = false := by simp [ha]
      have hbeg := hI.bet.begin (G := G) hr ha
      have hl1 : (ls.map u64V).set q (.int .u64 ad) = (ls.set q ad).map u64V := set_u64 ..
      have hf1 : (fs.map u64V).set q (.int .u64 G) = (fs.set q G).map u64V := set_u64 ..
      have hq2 : q < ls.length := by rw [hI.bet.lls, hI.lu]; exact hqm
      have hq3 : q < fs.length := by rw [hI.bet.lfs, hI.lu]; exact hqm
      have hga : (ls.set q ad).getD q 0 = ad := by rw [List.getD_eq_getElem?_getD, List.getElem?_set_self hq2]; rfl
      have hgf : (fs.set q G).getD q 0 = G := by rw [List.getD_eq_getElem?_getD, List.getElem?_set_self hq3]; rfl
      have hst := hbeg.step hn0 hn1 hr hov (fun hk => by
        rw [hga, hgf]
        have := (hI.bet.sum q r hr hk).s0
        have := hI.bet.tot
        have := hI.bet.grt
        rw [ha]
        simp only [show (0 : Int).toNat = 0 from rfl, List.drop_zero]
        omega)
      obtain ⟨hst, hsk⟩ := hst
      by_cases hk1 : r.k = 1
      · rw [if_pos hk1] at hst
        refine Res.segO (F := cntB c cb ws n ++ pendB c r.k r.w r.b (Sk.akOf r.k) (Sk.abOf r.k r.b) (Sk.cellOf n r.k r.w + r.at_) (Sk.lastOf n r.k r.w) r.sum false p kb bb) (V := [wordsV ws n n n (xs.map u64V)]) host5 _ (btS c cb ws n sb sf sn sc gp go m cp co gl gb gf ad G xs i q le fl (decide (r.at_ ≠ 0)) p kb bb r.k r.w r.b (Sk.akOf r.k) (Sk.abOf r.k r.b) (Sk.cellOf n r.k r.w + r.at_) (Sk.lastOf n r.k r.w) r.sum false) btS2_n (btS2_1 c cb ws n sb sf sn sc gp go m cp co gl gb gf ad G xs i q le fl (decide (r.at_ ≠ 0)) p kb bb r.k r.w r.b (Sk.akOf r.k) (Sk.abOf r.k r.b) (Sk.cellOf n r.k r.w + r.at_) (Sk.lastOf n r.k r.w) r.sum false) (btS2_2 c cb ws n sb sf sn sc gp go m cp co gl gb gf ad G xs i q le fl (decide (r.at_ ≠ 0)) p kb bb r.k r.w r.b (Sk.akOf r.k) (Sk.abOf r.k r.b) (Sk.cellOf n r.k r.w + r.at_) (Sk.lastOf n r.k r.w) r.sum false) _ (hfb ▸ hF) (ops) (hro) no_old no_ros rfl ?_ (fun _ _ => rfl) (fun _ _ => rfl) (fun _ _ => rfl) hfr7 fun ν j a8 w8 hfr8 hr8 => ?_
        · simp only [btS2_o, all_u64, map_valU, hov2]
          simp only [hcell, hsumE]
          simp [hqm', hqm2, hi', hlt, z7, z8, hact, hdec, hk1]
          rw [hk1] at z7 z8 hact
          exact ⟨⟨z7, z8⟩, hact⟩
        · obtain ⟨o, ho⟩ : ∃ o, o = btS2_o c cb ws n sb sf sn sc gp go m cp co gl gb gf ad G xs i q le fl (decide (r.at_ ≠ 0)) p kb bb r.k r.w r.b (Sk.akOf r.k) (Sk.abOf r.k r.b) (Sk.cellOf n r.k r.w + r.at_) (Sk.lastOf n r.k r.w) r.sum false ν j := ⟨_, rfl⟩
          rw [← ho] at hfr8 hr8
          refine fin (o := o) (ad' := (Sk.w64 (ad + r.b))) (G' := G) (ls' := (ls.set q ad)) (fs' := (fs.set q G)) hfr8 hr8 (by rw [ho]; simp only [btS2_o, hw, map_valU]; rfl) (by rw [ho]; rfl) (by rw [ho, ← step_blk hn0 (by omega) hg hov hI.bet.inU]; simp only [btS2_o, map_valU]; rfl) (by rw [ho]; simp only [btS2_o, map_valU, rowNow]; rfl) (by rw [ho]; rfl) hl1 hbg hf1 hst
      rw [if_neg hk1] at hst
      by_cases hk3 : r.k = 3
      · cases he2 : Sk.ended n (Sk.rnext n xs r) with
        | false =>
          rw [he2] at hov2
          refine Res.segO (F := cntB c cb ws n ++ pendB c r.k r.w r.b (Sk.akOf r.k) (Sk.abOf r.k r.b) (Sk.cellOf n r.k r.w + r.at_) (Sk.lastOf n r.k r.w) r.sum false p kb bb) (V := [wordsV ws n n n (xs.map u64V)]) host5 _ (btS c cb ws n sb sf sn sc gp go m cp co gl gb gf ad G xs i q le fl (decide (r.at_ ≠ 0)) p kb bb r.k r.w r.b (Sk.akOf r.k) (Sk.abOf r.k r.b) (Sk.cellOf n r.k r.w + r.at_) (Sk.lastOf n r.k r.w) r.sum false) btS4_n (btS4_1 c cb ws n sb sf sn sc gp go m cp co gl gb gf ad G xs i q le fl (decide (r.at_ ≠ 0)) p kb bb r.k r.w r.b (Sk.akOf r.k) (Sk.abOf r.k r.b) (Sk.cellOf n r.k r.w + r.at_) (Sk.lastOf n r.k r.w) r.sum false) (btS4_2 c cb ws n sb sf sn sc gp go m cp co gl gb gf ad G xs i q le fl (decide (r.at_ ≠ 0)) p kb bb r.k r.w r.b (Sk.akOf r.k) (Sk.abOf r.k r.b) (Sk.cellOf n r.k r.w + r.at_) (Sk.lastOf n r.k r.w) r.sum false) _ (hfb ▸ hF) (ops) (hro) no_old no_ros rfl ?_ (fun _ _ => rfl) (fun _ _ => rfl) (fun _ _ => rfl) hfr7 fun ν j a8 w8 hfr8 hr8 => ?_
          · simp only [btS4_o, all_u64, map_valU, hov2]
            simp only [hcell, hsumE]
            simp [hqm', hqm2, hi', hlt, z7, z8, hact, hdec, hk3]
            rw [hk3] at z7 z8 hact
            exact ⟨⟨z7, z8⟩, hact⟩
          · obtain ⟨o, ho⟩ : ∃ o, o = btS4_o c cb ws n sb sf sn sc gp go m cp co gl gb gf ad G xs i q le fl (decide (r.at_ ≠ 0)) p kb bb r.k r.w r.b (Sk.akOf r.k) (Sk.abOf r.k r.b) (Sk.cellOf n r.k r.w + r.at_) (Sk.lastOf n r.k r.w) r.sum false ν j := ⟨_, rfl⟩
            rw [← ho] at hfr8 hr8
            refine fin (o := o) (ad' := ad) (G' := G) (ls' := (ls.set q ad)) (fs' := (fs.set q G)) hfr8 hr8 (by rw [ho]; simp only [btS4_o, hw, map_valU]; rfl) (by rw [ho]; rfl) (by rw [ho, ← step_blk hn0 (by omega) hg hov hI.bet.inU]; simp only [btS4_o, map_valU]; rfl) (by rw [ho]; simp only [btS4_o, map_valU, rowNow]; rfl) (by rw [ho]; rfl) hl1 hbg hf1 hst
        | true =>
          rw [he2] at hov2
          obtain ⟨u1, u2, u3⟩ := hsk hk3 he2
          rw [hga] at u1
          rw [hgf] at u3
          have hn1' : ¬ (Sk.rnext n xs r).sum < ad := by omega
          have hn2' : ¬ ad < (Sk.rnext n xs r).sum := by omega
          have hn3' : ¬ (Sk.rnext n xs r).sum < G := by omega
          by_cases hgx : (Sk.rnext n xs r).sum > G
          · have hst2 : Sk.Bet n (Sk.step xs (Sk.prog n r)).xs (us.set q (Sk.rnext n xs r)) (ls.set q ad) (fs.set q G) ad (Sk.rnext n xs r).sum B := ⟨hst.len, hst.lls, hst.lfs, hst.pos, hst.tot, hst.room, hst.max, u2, hst.good, hst.sum⟩
            refine Res.segO (F := cntB c cb ws n ++ pendB c r.k r.w r.b (Sk.akOf r.k) (Sk.abOf r.k r.b) (Sk.cellOf n r.k r.w + r.at_) (Sk.lastOf n r.k r.w) r.sum false p kb bb) (V := [wordsV ws n n n (xs.map u64V)]) host5 _ (btS c cb ws n sb sf sn sc gp go m cp co gl gb gf ad G xs i q le fl (decide (r.at_ ≠ 0)) p kb bb r.k r.w r.b (Sk.akOf r.k) (Sk.abOf r.k r.b) (Sk.cellOf n r.k r.w + r.at_) (Sk.lastOf n r.k r.w) r.sum false) btS5_n (btS5_1 c cb ws n sb sf sn sc gp go m cp co gl gb gf ad G xs i q le fl (decide (r.at_ ≠ 0)) p kb bb r.k r.w r.b (Sk.akOf r.k) (Sk.abOf r.k r.b) (Sk.cellOf n r.k r.w + r.at_) (Sk.lastOf n r.k r.w) r.sum false) (btS5_2 c cb ws n sb sf sn sc gp go m cp co gl gb gf ad G xs i q le fl (decide (r.at_ ≠ 0)) p kb bb r.k r.w r.b (Sk.akOf r.k) (Sk.abOf r.k r.b) (Sk.cellOf n r.k r.w + r.at_) (Sk.lastOf n r.k r.w) r.sum false) _ (hfb ▸ hF) (ops) (hro) no_old no_ros rfl ?_ (fun _ _ => rfl) (fun _ _ => rfl) (fun _ _ => rfl) hfr7 fun ν j a8 w8 hfr8 hr8 => ?_
            · simp only [btS5_o, all_u64, map_valU, hov2]
              simp only [hcell, hsumE]
              simp [hqm', hqm2, hi', hlt, z7, z8, hact, hdec, hk3, hn1', hn2', hn3', hgx]
              rw [hk3] at z7 z8 hact
              exact ⟨⟨z7, z8⟩, hact⟩
            · obtain ⟨o, ho⟩ : ∃ o, o = btS5_o c cb ws n sb sf sn sc gp go m cp co gl gb gf ad G xs i q le fl (decide (r.at_ ≠ 0)) p kb bb r.k r.w r.b (Sk.akOf r.k) (Sk.abOf r.k r.b) (Sk.cellOf n r.k r.w + r.at_) (Sk.lastOf n r.k r.w) r.sum false ν j := ⟨_, rfl⟩
              rw [← ho] at hfr8 hr8
              refine fin (o := o) (ad' := ad) (G' := (Sk.rnext n xs r).sum) (ls' := (ls.set q ad)) (fs' := (fs.set q G)) hfr8 hr8 (by rw [ho]; simp only [btS5_o, hw, map_valU]; simp only [hcell, hsumE]; rfl) (by rw [ho]; rfl) (by rw [ho, ← step_blk hn0 (by omega) hg hov hI.bet.inU]; simp only [btS5_o, map_valU]; rfl) (by rw [ho]; simp only [btS5_o, map_valU, rowNow]; rfl) (by rw [ho]; rfl) hl1 hbg hf1 hst2
          · have hgx' : ¬ G < (Sk.rnext n xs r).sum := hgx
            refine Res.segO (F := cntB c cb ws n ++ pendB c r.k r.w r.b (Sk.akOf r.k) (Sk.abOf r.k r.b) (Sk.cellOf n r.k r.w + r.at_) (Sk.lastOf n r.k r.w) r.sum false p kb bb) (V := [wordsV ws n n n (xs.map u64V)]) host5 _ (btS c cb ws n sb sf sn sc gp go m cp co gl gb gf ad G xs i q le fl (decide (r.at_ ≠ 0)) p kb bb r.k r.w r.b (Sk.akOf r.k) (Sk.abOf r.k r.b) (Sk.cellOf n r.k r.w + r.at_) (Sk.lastOf n r.k r.w) r.sum false) btS6_n (btS6_1 c cb ws n sb sf sn sc gp go m cp co gl gb gf ad G xs i q le fl (decide (r.at_ ≠ 0)) p kb bb r.k r.w r.b (Sk.akOf r.k) (Sk.abOf r.k r.b) (Sk.cellOf n r.k r.w + r.at_) (Sk.lastOf n r.k r.w) r.sum false) (btS6_2 c cb ws n sb sf sn sc gp go m cp co gl gb gf ad G xs i q le fl (decide (r.at_ ≠ 0)) p kb bb r.k r.w r.b (Sk.akOf r.k) (Sk.abOf r.k r.b) (Sk.cellOf n r.k r.w + r.at_) (Sk.lastOf n r.k r.w) r.sum false) _ (hfb ▸ hF) (ops) (hro) no_old no_ros rfl ?_ (fun _ _ => rfl) (fun _ _ => rfl) (fun _ _ => rfl) hfr7 fun ν j a8 w8 hfr8 hr8 => ?_
            · simp only [btS6_o, all_u64, map_valU, hov2]
              simp only [hcell, hsumE]
              simp [hqm', hqm2, hi', hlt, z7, z8, hact, hdec, hk3, hn1', hn2', hn3', hgx']
              rw [hk3] at z7 z8 hact
              exact ⟨⟨z7, z8⟩, hact⟩
            · obtain ⟨o, ho⟩ : ∃ o, o = btS6_o c cb ws n sb sf sn sc gp go m cp co gl gb gf ad G xs i q le fl (decide (r.at_ ≠ 0)) p kb bb r.k r.w r.b (Sk.akOf r.k) (Sk.abOf r.k r.b) (Sk.cellOf n r.k r.w + r.at_) (Sk.lastOf n r.k r.w) r.sum false ν j := ⟨_, rfl⟩
              rw [← ho] at hfr8 hr8
              refine fin (o := o) (ad' := ad) (G' := G) (ls' := (ls.set q ad)) (fs' := (fs.set q G)) hfr8 hr8 (by rw [ho]; simp only [btS6_o, hw, map_valU]; rfl) (by rw [ho]; rfl) (by rw [ho, ← step_blk hn0 (by omega) hg hov hI.bet.inU]; simp only [btS6_o, map_valU]; rfl) (by rw [ho]; simp only [btS6_o, map_valU, rowNow]; rfl) (by rw [ho]; rfl) hl1 hbg hf1 hst
      · 
        refine Res.segO (F := cntB c cb ws n ++ pendB c r.k r.w r.b (Sk.akOf r.k) (Sk.abOf r.k r.b) (Sk.cellOf n r.k r.w + r.at_) (Sk.lastOf n r.k r.w) r.sum false p kb bb) (V := [wordsV ws n n n (xs.map u64V)]) host5 _ (btS c cb ws n sb sf sn sc gp go m cp co gl gb gf ad G xs i q le fl (decide (r.at_ ≠ 0)) p kb bb r.k r.w r.b (Sk.akOf r.k) (Sk.abOf r.k r.b) (Sk.cellOf n r.k r.w + r.at_) (Sk.lastOf n r.k r.w) r.sum false) btS3_n (btS3_1 c cb ws n sb sf sn sc gp go m cp co gl gb gf ad G xs i q le fl (decide (r.at_ ≠ 0)) p kb bb r.k r.w r.b (Sk.akOf r.k) (Sk.abOf r.k r.b) (Sk.cellOf n r.k r.w + r.at_) (Sk.lastOf n r.k r.w) r.sum false) (btS3_2 c cb ws n sb sf sn sc gp go m cp co gl gb gf ad G xs i q le fl (decide (r.at_ ≠ 0)) p kb bb r.k r.w r.b (Sk.akOf r.k) (Sk.abOf r.k r.b) (Sk.cellOf n r.k r.w + r.at_) (Sk.lastOf n r.k r.w) r.sum false) _ (hfb ▸ hF) (ops) (hro) no_old no_ros rfl ?_ (fun _ _ => rfl) (fun _ _ => rfl) (fun _ _ => rfl) hfr7 fun ν j a8 w8 hfr8 hr8 => ?_
        · simp only [btS3_o, all_u64, map_valU, hov2]
          simp only [hcell, hsumE]
          simp [hqm', hqm2, hi', hlt, z7, z8, hact, hdec, hk1, hk3]
        · obtain ⟨o, ho⟩ : ∃ o, o = btS3_o c cb ws n sb sf sn sc gp go m cp co gl gb gf ad G xs i q le fl (decide (r.at_ ≠ 0)) p kb bb r.k r.w r.b (Sk.akOf r.k) (Sk.abOf r.k r.b) (Sk.cellOf n r.k r.w + r.at_) (Sk.lastOf n r.k r.w) r.sum false ν j := ⟨_, rfl⟩
          rw [← ho] at hfr8 hr8
          refine fin (o := o) (ad' := ad) (G' := G) (ls' := (ls.set q ad)) (fs' := (fs.set q G)) hfr8 hr8 (by rw [ho]; simp only [btS3_o, hw, map_valU]; rfl) (by rw [ho]; rfl) (by rw [ho, ← step_blk hn0 (by omega) hg hov hI.bet.inU]; simp only [btS3_o, map_valU]; rfl) (by rw [ho]; simp only [btS3_o, map_valU, rowNow]; rfl) (by rw [ho]; rfl) hl1 hbg hf1 hst
    · have hdec : decide (r.at_ ≠ 0) = true := by simp [ha]
      have hk3 : r.k = 3 := by
        rcases Sk.kinds_of hg.right with h | h | h | h
        · simp [manyOf, h, Sk.isAll] at hat; omega
        · simp [manyOf, h, Sk.isAll] at hat; omega
        · exact h
        · exact absurd h hk4
      have hk1 : ¬ r.k = 1 := by omega
      have hst := hI.bet.step hn0 hn1 hr hov (fun hk => (hI.bet.sum q r hr hk).lo ha)
      obtain ⟨hst, hsk⟩ := hst
      rw [if_neg hk1] at hst
      have hl1 : (ls.map u64V).set q (.int .u64 le) = ls.map u64V := set_same hlq
      have hf1 : (fs.map u64V).set q (.int .u64 fl) = fs.map u64V := set_same hfq
      cases he2 : Sk.ended n (Sk.rnext n xs r) with
      | false =>
        rw [he2] at hov2
        refine Res.segO (F := cntB c cb ws n ++ pendB c r.k r.w r.b (Sk.akOf r.k) (Sk.abOf r.k r.b) (Sk.cellOf n r.k r.w + r.at_) (Sk.lastOf n r.k r.w) r.sum false p kb bb) (V := [wordsV ws n n n (xs.map u64V)]) host5 _ (btS c cb ws n sb sf sn sc gp go m cp co gl gb gf ad G xs i q le fl (decide (r.at_ ≠ 0)) p kb bb r.k r.w r.b (Sk.akOf r.k) (Sk.abOf r.k r.b) (Sk.cellOf n r.k r.w + r.at_) (Sk.lastOf n r.k r.w) r.sum false) btS7_n (btS7_1 c cb ws n sb sf sn sc gp go m cp co gl gb gf ad G xs i q le fl (decide (r.at_ ≠ 0)) p kb bb r.k r.w r.b (Sk.akOf r.k) (Sk.abOf r.k r.b) (Sk.cellOf n r.k r.w + r.at_) (Sk.lastOf n r.k r.w) r.sum false) (btS7_2 c cb ws n sb sf sn sc gp go m cp co gl gb gf ad G xs i q le fl (decide (r.at_ ≠ 0)) p kb bb r.k r.w r.b (Sk.akOf r.k) (Sk.abOf r.k r.b) (Sk.cellOf n r.k r.w + r.at_) (Sk.lastOf n r.k r.w) r.sum false) _ (hfb ▸ hF) (ops) (hro) no_old no_ros rfl ?_ (fun _ _ => rfl) (fun _ _ => rfl) (fun _ _ => rfl) hfr7 fun ν j a8 w8 hfr8 hr8 => ?_
        · simp only [btS7_o, all_u64, map_valU, hov2]
          simp only [hcell, hsumE]
          simp [hqm', hqm2, hi', hlt, z7, z8, hact, hdec, hk3]
          rw [hk3] at z7 z8 hact
          exact ⟨⟨z7, z8⟩, hact⟩
        · obtain ⟨o, ho⟩ : ∃ o, o = btS7_o c cb ws n sb sf sn sc gp go m cp co gl gb gf ad G xs i q le fl (decide (r.at_ ≠ 0)) p kb bb r.k r.w r.b (Sk.akOf r.k) (Sk.abOf r.k r.b) (Sk.cellOf n r.k r.w + r.at_) (Sk.lastOf n r.k r.w) r.sum false ν j := ⟨_, rfl⟩
          rw [← ho] at hfr8 hr8
          refine fin (o := o) (ad' := ad) (G' := G) (ls' := ls) (fs' := fs) hfr8 hr8 (by rw [ho]; simp only [btS7_o, hw, map_valU]; rfl) (by rw [ho]; rfl) (by rw [ho, ← step_blk hn0 (by omega) hg hov hI.bet.inU]; simp only [btS7_o, map_valU]; rfl) (by rw [ho]; simp only [btS7_o, map_valU, rowNow]; rfl) (by rw [ho]; rfl) hl1 (by rw [hdec]; exact hbg) hf1 hst
      | true =>
        rw [he2] at hov2
        obtain ⟨u1, u2, u3⟩ := hsk hk3 he2
        rw [hgle] at u1
        rw [hgfl] at u3
        have hn1' : ¬ (Sk.rnext n xs r).sum < le := by omega
        have hn2' : ¬ ad < (Sk.rnext n xs r).sum := by omega
        have hn3' : ¬ (Sk.rnext n xs r).sum < fl := by omega
        by_cases hgx : (Sk.rnext n xs r).sum > G
        · have hst2 : Sk.Bet n (Sk.step xs (Sk.prog n r)).xs (us.set q (Sk.rnext n xs r)) ls fs ad (Sk.rnext n xs r).sum B := ⟨hst.len, hst.lls, hst.lfs, hst.pos, hst.tot, hst.room, hst.max, u2, hst.good, hst.sum⟩
          refine Res.segO (F := cntB c cb ws n ++ pendB c r.k r.w r.b (Sk.akOf r.k) (Sk.abOf r.k r.b) (Sk.cellOf n r.k r.w + r.at_) (Sk.lastOf n r.k r.w) r.sum false p kb bb) (V := [wordsV ws n n n (xs.map u64V)]) host5 _ (btS c cb ws n sb sf sn sc gp go m cp co gl gb gf ad G xs i q le fl (decide (r.at_ ≠ 0)) p kb bb r.k r.w r.b (Sk.akOf r.k) (Sk.abOf r.k r.b) (Sk.cellOf n r.k r.w + r.at_) (Sk.lastOf n r.k r.w) r.sum false) btS8_n (btS8_1 c cb ws n sb sf sn sc gp go m cp co gl gb gf ad G xs i q le fl (decide (r.at_ ≠ 0)) p kb bb r.k r.w r.b (Sk.akOf r.k) (Sk.abOf r.k r.b) (Sk.cellOf n r.k r.w + r.at_) (Sk.lastOf n r.k r.w) r.sum false) (btS8_2 c cb ws n sb sf sn sc gp go m cp co gl gb gf ad G xs i q le fl (decide (r.at_ ≠ 0)) p kb bb r.k r.w r.b (Sk.akOf r.k) (Sk.abOf r.k r.b) (Sk.cellOf n r.k r.w + r.at_) (Sk.lastOf n r.k r.w) r.sum false) _ (hfb ▸ hF) (ops) (hro) no_old no_ros rfl ?_ (fun _ _ => rfl) (fun _ _ => rfl) (fun _ _ => rfl) hfr7 fun ν j a8 w8 hfr8 hr8 => ?_
          · simp only [btS8_o, all_u64, map_valU, hov2]
            simp only [hcell, hsumE]
            simp [hqm', hqm2, hi', hlt, z7, z8, hact, hdec, hk3, hn1', hn2', hn3', hgx]
            rw [hk3] at z7 z8 hact
            exact ⟨⟨z7, z8⟩, hact⟩
          · obtain ⟨o, ho⟩ : ∃ o, o = btS8_o c cb ws n sb sf sn sc gp go m cp co gl gb gf ad G xs i q le fl (decide (r.at_ ≠ 0)) p kb bb r.k r.w r.b (Sk.akOf r.k) (Sk.abOf r.k r.b) (Sk.cellOf n r.k r.w + r.at_) (Sk.lastOf n r.k r.w) r.sum false ν j := ⟨_, rfl⟩
            rw [← ho] at hfr8 hr8
            refine fin (o := o) (ad' := ad) (G' := (Sk.rnext n xs r).sum) (ls' := ls) (fs' := fs) hfr8 hr8 (by rw [ho]; simp only [btS8_o, hw, map_valU]; simp only [hcell, hsumE]; rfl) (by rw [ho]; rfl) (by rw [ho, ← step_blk hn0 (by omega) hg hov hI.bet.inU]; simp only [btS8_o, map_valU]; rfl) (by rw [ho]; simp only [btS8_o, map_valU, rowNow]; rfl) (by rw [ho]; rfl) hl1 (by rw [hdec]; exact hbg) hf1 hst2
        · have hgx' : ¬ G < (Sk.rnext n xs r).sum := hgx
          refine Res.segO (F := cntB c cb ws n ++ pendB c r.k r.w r.b (Sk.akOf r.k) (Sk.abOf r.k r.b) (Sk.cellOf n r.k r.w + r.at_) (Sk.lastOf n r.k r.w) r.sum false p kb bb) (V := [wordsV ws n n n (xs.map u64V)]) host5 _ (btS c cb ws n sb sf sn sc gp go m cp co gl gb gf ad G xs i q le fl (decide (r.at_ ≠ 0)) p kb bb r.k r.w r.b (Sk.akOf r.k) (Sk.abOf r.k r.b) (Sk.cellOf n r.k r.w + r.at_) (Sk.lastOf n r.k r.w) r.sum false) btS9_n (btS9_1 c cb ws n sb sf sn sc gp go m cp co gl gb gf ad G xs i q le fl (decide (r.at_ ≠ 0)) p kb bb r.k r.w r.b (Sk.akOf r.k) (Sk.abOf r.k r.b) (Sk.cellOf n r.k r.w + r.at_) (Sk.lastOf n r.k r.w) r.sum false) (btS9_2 c cb ws n sb sf sn sc gp go m cp co gl gb gf ad G xs i q le fl (decide (r.at_ ≠ 0)) p kb bb r.k r.w r.b (Sk.akOf r.k) (Sk.abOf r.k r.b) (Sk.cellOf n r.k r.w + r.at_) (Sk.lastOf n r.k r.w) r.sum false) _ (hfb ▸ hF) (ops) (hro) no_old no_ros rfl ?_ (fun _ _ => rfl) (fun _ _ => rfl) (fun _ _ => rfl) hfr7 fun ν j a8 w8 hfr8 hr8 => ?_
          · simp only [btS9_o, all_u64, map_valU, hov2]
            simp only [hcell, hsumE]
            simp [hqm', hqm2, hi', hlt, z7, z8, hact, hdec, hk3, hn1', hn2', hn3', hgx']
            rw [hk3] at z7 z8 hact
            exact ⟨⟨z7, z8⟩, hact⟩
          · obtain ⟨o, ho⟩ : ∃ o, o = btS9_o c cb ws n sb sf sn sc gp go m cp co gl gb gf ad G xs i q le fl (decide (r.at_ ≠ 0)) p kb bb r.k r.w r.b (Sk.akOf r.k) (Sk.abOf r.k r.b) (Sk.cellOf n r.k r.w + r.at_) (Sk.lastOf n r.k r.w) r.sum false ν j := ⟨_, rfl⟩
            rw [← ho] at hfr8 hr8
            refine fin (o := o) (ad' := ad) (G' := G) (ls' := ls) (fs' := fs) hfr8 hr8 (by rw [ho]; simp only [btS9_o, hw, map_valU]; rfl) (by rw [ho]; rfl) (by rw [ho, ← step_blk hn0 (by omega) hg hov hI.bet.inU]; simp only [btS9_o, map_valU]; rfl) (by rw [ho]; simp only [btS9_o, map_valU, rowNow]; rfl) (by rw [ho]; rfl) hl1 (by rw [hdec]; exact hbg) hf1 hst
end Go.Proofs.YtfdgggikjnoghaaDoor.between
