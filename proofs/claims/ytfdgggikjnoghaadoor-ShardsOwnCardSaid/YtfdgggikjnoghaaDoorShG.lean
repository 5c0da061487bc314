/- ShardsOwn: the walk whole. -/
import Derived.Test.YtfdgggikjnoghaaDoorShGB
import Derived.Test.YtfdgggikjnoghaaDoorShSt
import Derived.Test.YtfdgggikjnoghaaDoorElem
namespace Go.Proofs.YtfdgggikjnoghaaDoor.shown
open Go Sy Close
set_option maxRecDepth 100000
theorem body : Tryd.f6.body = some (codeOf Tryd.f6) := by kernel_rfl
theorem ntmps : 2 ≤ Tryd.f6.ntmps := by decide +kernel
theorem wv_len {W w : World} {O : Nat → Prop} {F : Bks} {L : List (Nat × Nat × Value)} {V : List Vec} (h : Res W O F L V w) {ws n : Nat} {xs : List Int} (hm : wordsV ws n n n (xs.map u64V) ∈ V) : xs.length = n := by
  have := (res_len h hm).2.1
  simpa using this
theorem made (n : Nat) : (madeCells (Value.cells (.int .u64 0)) (n * 1)).toList = (List.replicate n (0 : Int)).map u64V := by
  rw [show (Value.cells (.int .u64 0)) = #[.int .u64 0] from rfl, toList_madeCells_one, Nat.mul_one, List.map_replicate]
  rfl
theorem made' (n : Nat) : (madeCells (Value.cells (.int .u64 0)) n).toList = (List.replicate n (0 : Int)).map u64V := by
  have := made n
  rwa [Nat.mul_one] at this
theorem calls {W : World} (n : Int) {oa : Option Addr} {on oc : Nat} {l : List Int} (hl : l.length = on) (hcap : on ≤ oc) (hmax : oc ≤ maxLen) (hel : ∀ i y, l[i]? = some y → Elem W oa 1 i (u64Row y)) (hU : UsesAt W) :
    Calls Tryd.prog 6 #[.int .i64 n, .slice oa on oc] W (Done W) := by
  have hlu := looksUses hU
  refine calls_after (X := fun _ _ _ => False) Tryd.func6 body ntmps fun a1 ha => ?_
  by_cases h1 : 1 ≤ n ∧ n ≤ 64
  rotate_left
  · refine Res.segV (F := []) (GF := []) (V := []) (GV := []) host5 _ (owA n oa on oc) owA1_n (owA1_1 n oa on oc) (owA1_2 n oa on oc) (Res.start) (hlu) no_old no_ros rfl ?_ (fun _ _ => rfl) (fun _ _ => rfl) ha fun ν j a2 w2 hfr2 hr2 => ?_
    · simp [owA1_o]; omega
    · exact ⟨rfl, res_old hr2⟩
  obtain ⟨n, rfl⟩ : ∃ n' : Nat, n = n' := ⟨n.toNat, by omega⟩
  have hn0 : 0 < n := by omega
  have hn1 : n ≤ 64 := by omega
  refine Res.segV (F := []) (GF := []) (V := []) (GV := []) host5 _ (owA n oa on oc) owA2_n (owA2_1 n oa on oc) (owA2_2 n oa on oc) (Res.start) (hlu) no_old no_ros rfl ?_ (fun _ _ => rfl) (fun _ _ => rfl) ha fun ν j a2 w2 hfr2 hr2 => ?_
  · simp [owA2_o]; omega
  obtain ⟨o, ho⟩ : ∃ o, o = owA2_o n oa on oc ν j := ⟨_, rfl⟩
  rw [← ho] at hfr2 hr2
  obtain ⟨ca, ka, wa, cb, kb, wb, e1, e2, e3⟩ : ∃ ca ka wa cb kb wb, o.2.1 = owK n ca cb oa on oc 0 ∧ o.2.2.news = [(kb, 82, [.slice (some ⟨wb, 0, none⟩) n n]), (cb, 77, [ptrV kb]), (ka, 82, [.slice (some ⟨wa, 0, none⟩) n n]), (ca, 77, [ptrV ka])] ∧ o.2.2.vecs = [wordsV wa n n n ((List.replicate n (0 : Int)).map u64V), wordsV wb n n n ((List.replicate n (0 : Int)).map u64V)] := by
    rw [ho]; exact ⟨_, _, _, _, _, _, rfl, rfl, rfl⟩
  have e4 : o.2.2.blocks = [] := by rw [ho]; rfl
  rw [e1] at hfr2
  rw [e2, e3, e4] at hr2
  have hI : Res W NoOld (cntB ca ka wa n ++ cntB cb kb wb n) [] ([wordsV wa n n n ((List.replicate n (0 : Int)).map u64V)] ++ [wordsV wb n n n ((List.replicate n (0 : Int)).map u64V)]) w2 := hr2.perm (List.reverse_perm [_, _, _, _]).symm (.refl _)
  refine loop_after (i := 8) (by kernel_rfl) (fun d a w => ∃ (i : Nat) (xs : List Int), d = on - i ∧ i ≤ on ∧ Fr Tryd.f6.ntmps (owK n ca cb oa on oc i) a ∧ Res W NoOld (cntB ca ka wa n ++ cntB cb kb wb n) [] ([wordsV wa n n n (xs.map u64V)] ++ [wordsV wb n n n ((List.replicate n (0 : Int)).map u64V)]) w) on ⟨0, _, rfl, Nat.zero_le _, hfr2, hI⟩ ?_
  clear hI hr2 hfr2 e1 e2 e3 e4 ho o
  rintro d a3 w3 ⟨i, xs, rfl, hi, hfr3, hr3⟩ Y hY _
  by_cases hlt : i < on
  · obtain ⟨x, hy⟩ : ∃ y, l[i]? = some y := ⟨_, List.getElem?_eq_getElem (by omega)⟩
    have he := hel i _ hy
    obtain ⟨ab, ao, rfl, _⟩ := hel i _ hy
    have hro := ro_elem hU he [(0, .int .u64 x)] (by simp [u64Row]) (by simp)
    have hw := wrap_next hlt hcap hmax
    have hi' : (i : Int) < on := by omega
    refine Res.segV (V := [wordsV wa n n n (xs.map u64V)]) host5 _ (owR ca ka wa cb n ab ao on oc xs i x) owR1_n (owR1_1 ca ka wa cb n ab ao on oc xs i x) (owR1_2 ca ka wa cb n ab ao on oc xs i x) (hr3) (hro) no_old no_ros rfl ?_ (fun _ _ => rfl) (fun _ _ => rfl) hfr3 fun ν j a4 w4 hfr4 hr4 => ?_
    · simp only [owR1_o, all_u64, map_valU, rowNow]
      simp [hi', hlt, hn0]
    · obtain ⟨o, ho⟩ : ∃ o, o = owR1_o ca ka wa cb n ab ao on oc xs i x ν j := ⟨_, rfl⟩
      rw [← ho] at hfr4 hr4
      have e1 : o.2.1 = owK n ca cb (some ⟨ab, ao, none⟩) on oc (i + 1) := by rw [ho]; simp only [owR1_o, hw]; rfl
      have e2 : o.2.2.news = [] := by rw [ho]; rfl
      have e3 : o.2.2.blocks = cntB ca ka wa n := by rw [ho]; rfl
      have e4 : o.2.2.vecs = [wordsV wa n n n ((Sk.run n xs (Sk.start n 1 i x)).1.map u64V)] := by rw [ho]; simp only [owR1_o, map_valU, rowNow]; rfl
      rw [e1] at hfr4
      rw [e2, e3, e4] at hr4
      exact hY _ a4 w4 (by omega) ⟨i + 1, _, rfl, hlt, hfr4, hr4⟩
  have hd : ¬ (i : Int) < on := by omega
  have hd2 : on ≤ i := by omega
  have hxl : xs.length = n := wv_len hr3 (List.mem_cons_self ..)
  refine Res.segV (V := [wordsV wa n n n (xs.map u64V)]) host5 _ (owX ca ka wa cb n oa on oc xs i) owX1_n (owX1_1 ca ka wa cb n oa on oc xs i) (owX1_2 ca ka wa cb n oa on oc xs i) (hr3) (Looks.nil W) no_old no_ros rfl ?_ (fun _ _ => rfl) (fun _ _ => rfl) hfr3 fun ν j a4 w4 hfr4 hr4 => ?_
  · simp only [owX1_o, all_u64, map_valU, rowNow]
    simp [hd2, hn0]
    try omega
  obtain ⟨gx, cx, gy, cy, gk, ck, e1, e2, e3, e4⟩ : ∃ gx cx gy cy gk ck, (owX1_o ca ka wa cb n oa on oc xs i ν j).2.1 = owL n ca cb gx cx gy cy gk ck 0 ∧ (owX1_o ca ka wa cb n oa on oc xs i ν j).2.2.vecs = [wordsV wa n n n (xs.map u64V), u64sV (some ⟨gx, 0, none⟩) n cx (xs.map u64V), u64sV (some ⟨gy, 0, none⟩) n cy (xs.map u64V), u64sV (some ⟨gk, 0, none⟩) n ck (xs.map u64V)] ∧ (owX1_o ca ka wa cb n oa on oc xs i ν j).2.2.news = [] ∧ (owX1_o ca ka wa cb n oa on oc xs i ν j).2.2.blocks = cntB ca ka wa n := by
    simp only [owX1_o, map_valU]
    exact ⟨_, _, _, _, _, _, rfl, rfl, trivial, rfl⟩
  rw [e1] at hfr4
  rw [e2, e3, e4] at hr4
  have hI : Res W NoOld ([] ++ (cntB ca ka wa n ++ cntB cb kb wb n)) [] ([u64sV (some ⟨gx, 0, none⟩) n cx (xs.map u64V)] ++ [wordsV wa n n n (xs.map u64V), u64sV (some ⟨gy, 0, none⟩) n cy (xs.map u64V), u64sV (some ⟨gk, 0, none⟩) n ck (xs.map u64V), wordsV wb n n n ((List.replicate n (0 : Int)).map u64V)]) w4 := hr4.perm (.refl _) (.swap ..)
  refine loop_after (i := 15) (by kernel_rfl) (fun d a w => ∃ (i : Nat) (ys : List Int), d = n - i ∧ i ≤ n ∧ ys.length = n ∧ Fr Tryd.f6.ntmps (owL n ca cb gx cx gy cy gk ck i) a ∧ Res W NoOld ([] ++ (cntB ca ka wa n ++ cntB cb kb wb n)) [] ([u64sV (some ⟨gx, 0, none⟩) n cx (ys.map u64V)] ++ [wordsV wa n n n (xs.map u64V), u64sV (some ⟨gy, 0, none⟩) n cy (xs.map u64V), u64sV (some ⟨gk, 0, none⟩) n ck (xs.map u64V), wordsV wb n n n ((List.replicate n (0 : Int)).map u64V)]) w) n ⟨0, xs, rfl, Nat.zero_le _, hxl, hfr4, hI⟩ ?_
  clear hI hr4 hfr4 e1 e2 e3 e4 hr3 hfr3 hY hd hd2 hi
  rintro d a5 w5 ⟨i, ys, rfl, hi, hyl, hfr5, hr5⟩ Y hY _
  by_cases hlt : i < n
  · have hw : IntKind.i64.wrap ((i : Int) + 1) = ((i + 1 : Nat) : Int) := by rw [wrap_i64 (by omega) (by omega)]; simp
    have hiy : i < ys.length := by omega
    refine Res.segV (F := []) (V := [u64sV (some ⟨gx, 0, none⟩) n cx (ys.map u64V)]) host5 _ (owI n ca cb gx cx gy cy gk ck i ys) owI1_n (owI1_1 n ca cb gx cx gy cy gk ck i ys) (owI1_2 n ca cb gx cx gy cy gk ck i ys) (hr5) (Looks.nil W) no_old no_ros rfl ?_ (fun _ _ => rfl) (fun _ _ => rfl) hfr5 fun ν j a6 w6 hfr6 hr6 => ?_
    · simp only [owI1_o, isK_u64, valI_u64, set_u64, map_valU, all_u64, isK_i64, valI_i64, set_i64, isK_bool, valB_bool, set_bool, sadd_eq, smul_eq, Nat.mul_one, Nat.zero_add, Nat.add_zero, List.length_map, Int.toNat_natCast]
      simp [hlt, hiy]
    · obtain ⟨o, ho⟩ : ∃ o, o = owI1_o n ca cb gx cx gy cy gk ck i ys ν j := ⟨_, rfl⟩
      rw [← ho] at hfr6 hr6
      have e1 : o.2.1 = owL n ca cb gx cx gy cy gk ck (i + 1) := by rw [ho]; simp only [owI1_o, hw]; rfl
      have e2 : o.2.2.news = [] := by rw [ho]; rfl
      have e3 : o.2.2.blocks = [] := by rw [ho]; rfl
      have e4 : o.2.2.vecs = [u64sV (some ⟨gx, 0, none⟩) n cx ((ys.set i (IntKind.u64.wrap (ys.getD i 0 + 1))).map u64V)] := by rw [ho]; simp only [owI1_o, isK_u64, valI_u64, set_u64, map_valU, all_u64, isK_i64, valI_i64, set_i64, isK_bool, valB_bool, set_bool, sadd_eq, smul_eq, Nat.mul_one, Nat.zero_add, Nat.add_zero, List.length_map, Int.toNat_natCast]; rfl
      rw [e1] at hfr6
      rw [e2, e3, e4] at hr6
      exact hY _ a6 w6 (by omega) ⟨i + 1, _, rfl, hlt, by simpa using hyl, hfr6, hr6⟩
  have hin : i = n := by omega
  have hr5' := hr5.perm (F' := (cntB ca ka wa n ++ cntB cb kb wb n) ++ []) (V' := [wordsV wa n n n (xs.map u64V), wordsV wb n n n ((List.replicate n (0 : Int)).map u64V), u64sV (some ⟨gx, 0, none⟩) n cx (ys.map u64V), u64sV (some ⟨gy, 0, none⟩) n cy (xs.map u64V), u64sV (some ⟨gk, 0, none⟩) n ck (xs.map u64V)] ++ []) (by simp) (by
    rw [List.append_nil]
    refine (List.Perm.swap _ _ _).trans (List.Perm.cons _ ?_)
    exact (List.perm_append_comm (l₁ := [u64sV (some ⟨gx, 0, none⟩) n cx (ys.map u64V), u64sV (some ⟨gy, 0, none⟩) n cy (xs.map u64V), u64sV (some ⟨gk, 0, none⟩) n ck (xs.map u64V)]) (l₂ := [wordsV wb n n n ((List.replicate n (0 : Int)).map u64V)])))
  have hwn : IntKind.i64.wrap (((n + 1 : Nat) : Int) - 1) = (n : Int) := by rw [wrap_i64 (by omega) (by omega)]; omega
  have hget : (ys.map u64V ++ [Value.int .u64 7]).getD n noV = .int .u64 7 := by
    rw [List.getD_eq_getElem?_getD, List.getElem?_append_right (by simp; omega)]
    simp [hyl]
  refine Res.segV (GF := []) (V := [wordsV wa n n n (xs.map u64V), wordsV wb n n n ((List.replicate n (0 : Int)).map u64V), u64sV (some ⟨gx, 0, none⟩) n cx (ys.map u64V), u64sV (some ⟨gy, 0, none⟩) n cy (xs.map u64V), u64sV (some ⟨gk, 0, none⟩) n ck (xs.map u64V)]) (GV := []) host5 _ (owY n ca ka wa cb kb wb gx cx gy cy gk ck i xs ys) owY1_n (owY1_1 n ca ka wa cb kb wb gx cx gy cy gk ck i xs ys) (owY1_2 n ca ka wa cb kb wb gx cx gy cy gk ck i xs ys) (hr5') (Looks.nil W) no_old no_ros rfl ?_ (fun _ _ => rfl) (fun _ _ => rfl) hfr5 fun ν j a6 w6 hfr6 hr6 => ?_
  · simp only [owY1_o, Int.toNat_natCast, made, made', all_u64, map_valU, u64sV, addV_eq, hwn, sadd_eq, smul_eq, Nat.mul_one, Nat.zero_add, hget]
    simp [hn0, hin, maxLen, isK]
    exact ⟨by omega, by omega, decide_eq_true (by omega), by omega, by omega, by omega, decide_eq_true (by omega), by omega, by omega, by omega, by omega⟩
  · refine ⟨?_, res_old hr6⟩
    simp only [owY1_o, u64sV, addV_eq, hwn, Int.toNat_natCast, sadd_eq, smul_eq, Nat.mul_one, Nat.zero_add, hget]
    rfl
end Go.Proofs.YtfdgggikjnoghaaDoor.shown
