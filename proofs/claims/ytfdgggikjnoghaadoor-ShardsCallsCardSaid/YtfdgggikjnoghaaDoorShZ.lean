/- ShardsCalls: the walk whole. -/
import Derived.Test.YtfdgggikjnoghaaDoorShZB
namespace Go.Proofs.YtfdgggikjnoghaaDoor.shcalls
open Go Sy Close
set_option maxRecDepth 100000
theorem body : Tryd.f7.body = some (codeOf Tryd.f7) := by kernel_rfl
theorem ntmps : 2 ≤ Tryd.f7.ntmps := by decide +kernel
structure S4 (W : World) (c cb ws n gc cc : Nat) (xs : List Int) (w : World) : Prop where
  res : Res W NoOld (cntB c cb ws n ++ []) [] ([wordsV ws n n n (xs.map u64V), u64sV (some ⟨gc, 0, none⟩) n cc (xs.map u64V)] ++ []) w
  inU : Sk.InU xs
theorem calls {W : World} (n : Int) {oa : Option Addr} {on oc : Nat} {l : List shop.Op} (hl : l.length = on) (hcap : on ≤ oc) (hmax : oc ≤ maxLen) (hel : ∀ i y, l[i]? = some y → Elem W oa 3 i y.row) (hU : UsesAt W) :
    Calls Tryd.prog 7 #[.int .i64 n, .slice oa on oc] W (Done W) := by
  have hlu := looksUses hU
  refine calls_after (X := fun _ _ _ => False) Tryd.func7 body ntmps fun a1 ha => ?_
  by_cases h1 : 1 ≤ n ∧ n ≤ 64
  rotate_left
  · by_cases h2 : n < 1
    · refine Res.segV (F := []) (GF := []) (V := []) (GV := []) host6 _ (caA n oa on oc) caA1_n (caA1_1 n oa on oc) (caA1_2 n oa on oc) (Res.start) (hlu) no_old no_ros rfl ?_ (fun _ _ => rfl) (fun _ _ => rfl) ha fun ν j a2 w2 hfr2 hr2 => ?_
      · simp [caA1_o]; omega
      · exact ⟨rfl, res_old hr2⟩
    · refine Res.segV (F := []) (GF := []) (V := []) (GV := []) host6 _ (caA n oa on oc) caA2_n (caA2_1 n oa on oc) (caA2_2 n oa on oc) (Res.start) (hlu) no_old no_ros rfl ?_ (fun _ _ => rfl) (fun _ _ => rfl) ha fun ν j a2 w2 hfr2 hr2 => ?_
      · simp [caA2_o]; omega
      · exact ⟨rfl, res_old hr2⟩
  obtain ⟨n, rfl⟩ : ∃ n' : Nat, n = n' := ⟨n.toNat, by omega⟩
  have hn0 : 0 < n := by omega
  have hn1 : n ≤ 64 := by omega
  refine Res.segV (F := []) (GF := []) (V := []) (GV := []) host6 _ (caA n oa on oc) caA3_n (caA3_1 n oa on oc) (caA3_2 n oa on oc) (Res.start) (hlu) no_old no_ros rfl ?_ (fun _ _ => rfl) (fun _ _ => rfl) ha fun ν j a2 w2 hfr2 hr2 => ?_
  · simp [caA3_o, maxLen]
    exact ⟨decide_eq_true (by omega), by omega, by omega, by omega⟩
  obtain ⟨o, ho⟩ : ∃ o, o = caA3_o n oa on oc ν j := ⟨_, rfl⟩
  rw [← ho] at hfr2 hr2
  obtain ⟨c, cb, ws, gc, e1, e2, e3⟩ : ∃ c cb ws gc, o.2.1 = caK n c oa on oc gc n 0 ∧ o.2.2.news = [(cb, 82, [.slice (some ⟨ws, 0, none⟩) n n]), (c, 77, [ptrV cb])] ∧ o.2.2.vecs = [wordsV ws n n n ((List.replicate n (0 : Int)).map u64V), u64sV (some ⟨gc, 0, none⟩) n n (madeCells (Value.cells (.int .u64 0)) (n * 1)).toList] := by
    rw [ho]; exact ⟨_, _, _, _, rfl, rfl, rfl⟩
  have e4 : o.2.2.blocks = [] := by rw [ho]; rfl
  rw [e1] at hfr2
  rw [e2, e3, e4, Nat.mul_one, show (Value.cells (.int .u64 0)) = #[.int .u64 0] from rfl, toList_madeCells_one, ← show (List.replicate n (0 : Int)).map u64V = List.replicate n (.int .u64 0) from List.map_replicate ..] at hr2
  have hI : S4 W c cb ws n gc n (List.replicate n 0) w2 := ⟨hr2.perm (List.Perm.swap ..) (.refl _), Sk.inU_rep n⟩
  refine loop_after (i := 6) (by kernel_rfl) (fun d a w => ∃ (i gc cc : Nat) (xs : List Int), d = on - i ∧ i ≤ on ∧ Fr Tryd.f7.ntmps (caK n c oa on oc gc cc i) a ∧ S4 W c cb ws n gc cc xs w) on ⟨0, gc, n, _, rfl, Nat.zero_le _, hfr2, hI⟩ ?_
  clear hI hr2 hfr2 e1 e2 e3 e4 ho o
  rintro d a3 w3 ⟨i, gc, cc, xs, rfl, hi, hfr3, ⟨hr3, hin⟩⟩ Y hY _
  by_cases hlt : i < on
  rotate_left
  · have hd : ¬ (i : Int) < on := by omega
    refine Res.segV (F := []) (V := []) host6 _ (caX n c oa on oc gc cc i) caX1_n (caX1_1 n c oa on oc gc cc i) (caX1_2 n c oa on oc gc cc i) (hr3) (Looks.nil W) no_old no_ros rfl ?_ (fun _ _ => rfl) (fun _ _ => rfl) hfr3 fun ν j a4 w4 hfr4 hr4 => ?_
    · simp [caX1_o, hd]
    · exact ⟨rfl, res_old hr4⟩
  obtain ⟨⟨k, wk, b⟩, hy⟩ : ∃ y, l[i]? = some y := ⟨_, List.getElem?_eq_getElem (by omega)⟩
  have he := hel i _ hy
  obtain ⟨ab, ao, rfl, _⟩ := hel i _ hy
  have hro := ro_elem hU he (opsK k wk b) (by simp [opsK, shop.Op.row]) (by simp [opsK])
  have hw := wrap_next hlt hcap hmax
  have hi' : (i : Int) < on := by omega
  have hinB := Sk.inUB_iff.2 hin
  have stay : ∀ {o : Fin × List (Nat × Value) × Sy.Left} {a4 : Act} {w4 : World}, Fr Tryd.f7.ntmps o.2.1 a4 → Res W NoOld (o.2.2.news ++ (o.2.2.blocks ++ [])) [] (o.2.2.vecs ++ []) w4 → o.2.1 = caK n c (some ⟨ab, ao, none⟩) on oc gc cc (i + 1) → o.2.2.news = [] → o.2.2.blocks = cntB c cb ws n → o.2.2.vecs = [wordsV ws n n n (xs.map u64V), u64sV (some ⟨gc, 0, none⟩) n cc (xs.map u64V)] → Y 6 a4 w4 := fun {o a4 w4} hf hr e1 e2 e3 e4 => by
    rw [e1] at hf
    rw [e2, e3, e4] at hr
    exact hY _ a4 w4 (by omega) ⟨i + 1, gc, cc, xs, rfl, hlt, hf, ⟨hr, hin⟩⟩
  have went : ∀ {o : Fin × List (Nat × Value) × Sy.Left} {a4 : Act} {w4 : World} {g cap : Nat} {k wk b : Int} {V : List Vec}, Fr Tryd.f7.ntmps o.2.1 a4 → Res W NoOld (o.2.2.news ++ (o.2.2.blocks ++ [])) [] (o.2.2.vecs ++ []) w4 → Sk.right k wk b = true → o.2.1 = caK n c (some ⟨ab, ao, none⟩) on oc g cap (i + 1) → o.2.2.news = [] → o.2.2.blocks = cntB c cb ws n → o.2.2.vecs = wordsV ws n n n ((Sk.run n xs (Sk.start n k wk b)).1.map u64V) :: u64sV (some ⟨gc, 0, none⟩) n cc (xs.map u64V) :: u64sV (some ⟨g, 0, none⟩) n cap ((Sk.run n xs (Sk.start n k wk b)).1.map u64V) :: V → Y 6 a4 w4 := fun {o a4 w4 g cap k wk b V} hf hr hrt e1 e2 e3 e4 => by
    rw [e1] at hf
    rw [e2, e3, e4] at hr
    refine hY _ a4 w4 (by omega) ⟨i + 1, g, cap, _, rfl, hlt, hf, ⟨hr.less (.refl _) (.refl _) (.cons_cons _ (.cons _ (.cons_cons _ (List.nil_sublist _)))), ?_⟩⟩
    have := Sk.run_prog hn0 hn1 n xs ⟨k, wk, b, 0, 0⟩ (Sk.new_good hrt hn0 hn1) hin
    rwa [Sk.prog_new hn0 hn1] at this
  by_cases k1 : k = 1
  · subst k1
    cases hrt : Sk.right 1 wk b with
    | true =>
      refine Res.segV (GF := []) (GV := []) host6 _ (caR c cb ws n ab ao on oc gc cc xs i 1 wk b) caR1_n (caR1_1 c cb ws n ab ao on oc gc cc xs i 1 wk b) (caR1_2 c cb ws n ab ao on oc gc cc xs i 1 wk b) (hr3) (hro) no_old no_ros rfl ?_ (fun _ _ => rfl) (fun _ _ => rfl) hfr3 fun ν j a4 w4 hfr4 hr4 => ?_
      · simp only [caR1_o, all_u64, map_valU, rowNow]
        simp [hi', hlt, hn0, hn1, hinB, hrt]
        try omega
      · obtain ⟨o, ho⟩ : ∃ o, o = caR1_o c cb ws n ab ao on oc gc cc xs i 1 wk b ν j := ⟨_, rfl⟩
        rw [← ho] at hfr4 hr4
        exact went (o := o) hfr4 hr4 hrt (by rw [ho]; simp only [caR1_o, hw]; rfl) (by rw [ho]; rfl) (by rw [ho]; rfl) (by rw [ho]; simp only [caR1_o, map_valU, rowNow]; rfl)
    | false =>
      refine Res.segV (GF := []) (GV := []) host6 _ (caR c cb ws n ab ao on oc gc cc xs i 1 wk b) caR2_n (caR2_1 c cb ws n ab ao on oc gc cc xs i 1 wk b) (caR2_2 c cb ws n ab ao on oc gc cc xs i 1 wk b) (hr3) (hro) no_old no_ros rfl ?_ (fun _ _ => rfl) (fun _ _ => rfl) hfr3 fun ν j a4 w4 hfr4 hr4 => ?_
      · simp only [caR2_o, all_u64, map_valU, rowNow]
        simp [hi', hlt, hn0, hn1, hrt]
        try omega
      · obtain ⟨o, ho⟩ : ∃ o, o = caR2_o c cb ws n ab ao on oc gc cc xs i 1 wk b ν j := ⟨_, rfl⟩
        rw [← ho] at hfr4 hr4
        exact stay (o := o) hfr4 hr4 (by rw [ho]; simp only [caR2_o, hw]; rfl) (by rw [ho]; rfl) (by rw [ho]; rfl) (by rw [ho]; simp only [caR2_o, map_valU, rowNow]; rfl)
  by_cases k2 : k = 2
  · subst k2
    cases hrt : Sk.right 2 wk 0 with
    | true =>
      refine Res.segV (GF := []) (GV := []) host6 _ (caR c cb ws n ab ao on oc gc cc xs i 2 wk b) caR3_n (caR3_1 c cb ws n ab ao on oc gc cc xs i 2 wk b) (caR3_2 c cb ws n ab ao on oc gc cc xs i 2 wk b) (hr3) (hro) no_old no_ros rfl ?_ (fun _ _ => rfl) (fun _ _ => rfl) hfr3 fun ν j a4 w4 hfr4 hr4 => ?_
      · simp only [caR3_o, all_u64, map_valU, rowNow]
        simp [hi', hlt, hn0, hn1, hinB, hrt]
        try omega
      · obtain ⟨o, ho⟩ : ∃ o, o = caR3_o c cb ws n ab ao on oc gc cc xs i 2 wk b ν j := ⟨_, rfl⟩
        rw [← ho] at hfr4 hr4
        exact went (o := o) hfr4 hr4 hrt (by rw [ho]; simp only [caR3_o, hw]; rfl) (by rw [ho]; rfl) (by rw [ho]; rfl) (by rw [ho]; simp only [caR3_o, map_valU, rowNow]; rfl)
    | false =>
      refine Res.segV (GF := []) (GV := []) host6 _ (caR c cb ws n ab ao on oc gc cc xs i 2 wk b) caR4_n (caR4_1 c cb ws n ab ao on oc gc cc xs i 2 wk b) (caR4_2 c cb ws n ab ao on oc gc cc xs i 2 wk b) (hr3) (hro) no_old no_ros rfl ?_ (fun _ _ => rfl) (fun _ _ => rfl) hfr3 fun ν j a4 w4 hfr4 hr4 => ?_
      · simp only [caR4_o, all_u64, map_valU, rowNow]
        simp [hi', hlt, hn0, hn1, hrt]
        try omega
      · obtain ⟨o, ho⟩ : ∃ o, o = caR4_o c cb ws n ab ao on oc gc cc xs i 2 wk b ν j := ⟨_, rfl⟩
        rw [← ho] at hfr4 hr4
        exact stay (o := o) hfr4 hr4 (by rw [ho]; simp only [caR4_o, hw]; rfl) (by rw [ho]; rfl) (by rw [ho]; rfl) (by rw [ho]; simp only [caR4_o, map_valU, rowNow]; rfl)
  by_cases k3 : k = 3
  · subst k3
    have hrt : Sk.right 3 0 0 = true := by decide
    refine Res.segV (GF := []) (GV := []) host6 _ (caR c cb ws n ab ao on oc gc cc xs i 3 wk b) caR5_n (caR5_1 c cb ws n ab ao on oc gc cc xs i 3 wk b) (caR5_2 c cb ws n ab ao on oc gc cc xs i 3 wk b) (hr3) (hro) no_old no_ros rfl ?_ (fun _ _ => rfl) (fun _ _ => rfl) hfr3 fun ν j a4 w4 hfr4 hr4 => ?_
    · simp only [caR5_o, all_u64, map_valU, rowNow]
      simp [hi', hlt, hn0, hn1, hinB, hrt]
      try omega
    · obtain ⟨o, ho⟩ : ∃ o, o = caR5_o c cb ws n ab ao on oc gc cc xs i 3 wk b ν j := ⟨_, rfl⟩
      rw [← ho] at hfr4 hr4
      exact went (o := o) hfr4 hr4 hrt (by rw [ho]; simp only [caR5_o, hw]; rfl) (by rw [ho]; rfl) (by rw [ho]; rfl) (by rw [ho]; simp only [caR5_o, map_valU, rowNow]; rfl)
  by_cases k4 : k = 4
  · subst k4
    have hrt : Sk.right 4 0 0 = true := by decide
    refine Res.segV (GF := []) (GV := []) host6 _ (caR c cb ws n ab ao on oc gc cc xs i 4 wk b) caR6_n (caR6_1 c cb ws n ab ao on oc gc cc xs i 4 wk b) (caR6_2 c cb ws n ab ao on oc gc cc xs i 4 wk b) (hr3) (hro) no_old no_ros rfl ?_ (fun _ _ => rfl) (fun _ _ => rfl) hfr3 fun ν j a4 w4 hfr4 hr4 => ?_
    · simp only [caR6_o, all_u64, map_valU, rowNow]
      simp [hi', hlt, hn0, hn1, hinB, hrt]
      try omega
    · obtain ⟨o, ho⟩ : ∃ o, o = caR6_o c cb ws n ab ao on oc gc cc xs i 4 wk b ν j := ⟨_, rfl⟩
      rw [← ho] at hfr4 hr4
      exact went (o := o) hfr4 hr4 hrt (by rw [ho]; simp only [caR6_o, hw]; rfl) (by rw [ho]; rfl) (by rw [ho]; rfl) (by rw [ho]; simp only [caR6_o, map_valU, rowNow]; rfl)
  refine Res.segV (GF := []) (GV := []) host6 _ (caR c cb ws n ab ao on oc gc cc xs i k wk b) caR7_n (caR7_1 c cb ws n ab ao on oc gc cc xs i k wk b) (caR7_2 c cb ws n ab ao on oc gc cc xs i k wk b) (hr3) (hro) no_old no_ros rfl ?_ (fun _ _ => rfl) (fun _ _ => rfl) hfr3 fun ν j a4 w4 hfr4 hr4 => ?_
  · simp only [caR7_o, all_u64, map_valU, rowNow]
    simp [hi', hlt, hn0, hn1, k1, k2, k3, k4]
    try omega
  · obtain ⟨o, ho⟩ : ∃ o, o = caR7_o c cb ws n ab ao on oc gc cc xs i k wk b ν j := ⟨_, rfl⟩
    rw [← ho] at hfr4 hr4
    exact stay (o := o) hfr4 hr4 (by rw [ho]; simp only [caR7_o, hw]; rfl) (by rw [ho]; rfl) (by rw [ho]; rfl) (by rw [ho]; simp only [caR7_o, map_valU, rowNow]; rfl)
end Go.Proofs.YtfdgggikjnoghaaDoor.shcalls
