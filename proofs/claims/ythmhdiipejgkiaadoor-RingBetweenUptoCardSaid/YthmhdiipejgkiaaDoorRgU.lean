/- Rings: 'counted' of the statements, and the Step of a sum, whole. -/
import Derived.Test.YthmhdiipejgkiaaDoorRgS
set_option linter.unusedSimpArgs false
set_option linter.unusedVariables false
namespace Go.Proofs.YthmhdiipejgkiaaDoor.rgs
open Go Sy Close
set_option maxRecDepth 100000
open Rg (RP Inv)
def uRow (u : RP) : List Value := [.int .u8 1, .int .i64 u.t, .int .u64 u.N]
theorem uRow_len (u : RP) : (uRow u).length = 3 := rfl
def bV (u : RP) : Value := .bool u.bg
def cf (e : Bool) (u : RP) : Int := if (match e with | true => u.done | false => u.bg) = true then u.N else 0
theorem set_same' {α β : Type} {f : α → β} {us : List α} {j : Nat} {u : α} (h : us[j]? = some u) : (us.map f).set j (f u) = us.map f := set_same (by rw [List.getElem?_map, h]; rfl)
theorem cntBody : Tryd.f22.body = some (codeOf Tryd.f22) := by kernel_rfl
theorem cntTmps : 4 ≤ Tryd.f22.ntmps := by decide +kernel
theorem counted {W w0 : World} {c : Nat} {w : Int} {us : List RP} {qs : List Nat} {so sp : Option Addr} {gb m co cp : Nat} {F : Bks} {V : List Vec} (hlu : us.length = m) (hlq : qs.length = m) (hm : m ≤ 1048576) (hN : ∀ u ∈ us, 0 ≤ u.N) (ht : Rg.all us ≤ 4294967295) (e : Bool)
    (h : Res W NoOld (famB (fB c w) us qs ++ F) [] ([ropsV so m co (us.flatMap uRow), rptrs sp m cp (qs.map ptrV), boolsV (some ⟨gb, 0, none⟩) m m (us.map bV)] ++ V) w0) :
    Calls Tryd.prog 22 #[.slice so m co, .slice sp m cp, .slice (some ⟨gb, 0, none⟩) m m, .bool e] w0 fun e' w' => e' = .returned (.int .u64 (us.map (cf e)).sum) ∧ Res W NoOld (famB (fB c w) us qs ++ F) [] ([ropsV so m co (us.flatMap uRow), rptrs sp m cp (qs.map ptrV), boolsV (some ⟨gb, 0, none⟩) m m (us.map bV)] ++ V) w' := by
  refine calls_after (X := fun _ _ _ => False) Tryd.func22 cntBody cntTmps fun a1 ha => ?_
  refine Res.segV (F := []) (V := []) hostL _ (cntA so sp (some ⟨gb, 0, none⟩) m co cp e) cntA1_n (cntA1_1 so sp (some ⟨gb, 0, none⟩) m co cp e) (cntA1_2 so sp (some ⟨gb, 0, none⟩) m co cp e) (h) (Looks.nil W) no_old no_ros rfl ?_ (fun _ _ => rfl) (fun _ _ => rfl) ha fun ν j a2 w2 hfr2 hr2 => ?_
  · simp [cntA1_o]
  have hfr2 : Fr Tryd.f22.ntmps (cntK so sp (some ⟨gb, 0, none⟩) m co cp e (((us.take 0).map (cf e)).sum) 0) a2 := hfr2
  refine loop_after (i := 3) (by kernel_rfl) (fun d a w1 => ∃ (i : Nat), d = m - i ∧ i ≤ m ∧ Fr Tryd.f22.ntmps (cntK so sp (some ⟨gb, 0, none⟩) m co cp e (((us.take i).map (cf e)).sum) i) a ∧ Res W NoOld (famB (fB c w) us qs ++ F) [] ([ropsV so m co (us.flatMap uRow), rptrs sp m cp (qs.map ptrV), boolsV (some ⟨gb, 0, none⟩) m m (us.map bV)] ++ V) w1) m ⟨0, rfl, Nat.zero_le _, hfr2, hr2⟩ ?_
  clear hfr2 hr2
  rintro d a3 w3 ⟨i, rfl, hi, hfr3, hr3⟩ Y hY _
  by_cases hlt : i < m
  · obtain ⟨u, hu⟩ : ∃ u, us[i]? = some u := ⟨_, List.getElem?_eq_getElem (by omega)⟩
    obtain ⟨p, hp⟩ : ∃ p, qs[i]? = some p := ⟨_, List.getElem?_eq_getElem (by omega)⟩
    obtain ⟨_, _, hso⟩ := res_len hr3 (List.mem_cons_self ..)
    obtain ⟨go, rfl⟩ := hso (by omega)
    obtain ⟨_, _, hsp⟩ := res_len hr3 (List.mem_cons_of_mem _ (List.mem_cons_self ..))
    obtain ⟨gp, rfl⟩ := hsp (by omega)
    have hwi : IntKind.i64.wrap ((i : Int) + 1) = ((i + 1 : Nat) : Int) := by rw [wrap_i64 (by omega) (by omega)]; simp
    have hcf : ∀ u ∈ us, 0 ≤ cf e u ∧ cf e u ≤ u.N := fun u hu => by
      have := hN u hu
      unfold cf
      split <;> omega
    have hsn : (((us.take (i + 1)).map (cf e)).sum) = ((us.take i).map (cf e)).sum + cf e u := by
      rw [List.take_add_one, hu, List.map_append, List.sum_append]; simp
    have hs0 : 0 ≤ ((us.take i).map (cf e)).sum := Rg.sum_nonneg fun v hv => (hcf v (List.mem_of_mem_take hv)).1
    have hs1 : ((us.take i).map (cf e)).sum + u.N ≤ 4294967295 := by
      have h1 : ((us.take i).map (cf e)).sum ≤ ((us.take i).map RP.N).sum := Rg.sum_le fun v hv => (hcf v (List.mem_of_mem_take hv)).2
      have h0 : 0 ≤ ((us.drop (i + 1)).map RP.N).sum := Rg.sum_nonneg fun v hv => hN v (List.mem_of_mem_drop hv)
      have h2 : (us.map RP.N).sum ≤ 4294967295 := ht
      have h3 : ((us.take (i + 1) ++ us.drop (i + 1)).map RP.N).sum = (us.map RP.N).sum := by rw [List.take_append_drop]
      have h4 : ((us.take (i + 1)).map RP.N).sum = ((us.take i).map RP.N).sum + u.N := by rw [List.take_add_one, hu, List.map_append, List.sum_append]; simp
      rw [List.map_append, List.sum_append, h4] at h3
      omega
    have hsw : IntKind.u64.wrap (((us.take i).map (cf e)).sum + u.N) = ((us.take i).map (cf e)).sum + u.N := by rw [Rg.wrap_u]; unfold Rg.w64; have := hN u (List.mem_of_getElem? hu); omega
    obtain ⟨s, hs⟩ : ∃ s, s = ((us.take i).map (cf e)).sum := ⟨_, rfl⟩
    rw [← hs] at hfr3 hsn hsw
    have opO : OpenOk ⟨ropsV (some ⟨go, 0, none⟩) m co (us.flatMap uRow), go, elC 3 i (ropK 1 u.t u.N)⟩ := open_row ⟨_, _, rfl⟩ rfl uRow_len hu (by simp [uRow, ropK]) (by simp [ropK])
    have opP : OpenOk ⟨rptrs (some ⟨gp, 0, none⟩) m cp (qs.map ptrV), gp, elC 1 i [(0, ptrV p)]⟩ := open_row (row := fun q => [ptrV q]) ⟨_, _, rfl⟩ (List.map_eq_flatMap ..) (fun _ => rfl) hp (by simp) (by simp)
    have opB : OpenOk ⟨boolsV (some ⟨gb, 0, none⟩) m m (us.map bV), gb, elC 1 i [(0, .bool u.bg)]⟩ := open_row (row := fun q => [bV q]) ⟨_, _, rfl⟩ (List.map_eq_flatMap ..) (fun _ => rfl) hu (by simp [bV]) (by simp)
    have rO : ∀ l, reL (elC 3 i (ropK 1 u.t u.N)) (us.flatMap uRow) (opL go (elC 3 i (ropK 1 u.t u.N)) l) = us.flatMap uRow := fun l => by
      rw [reL_row (u := u) (u' := u) uRow_len hu (by simp [ropK]) rfl, set_same hu]
    cases e with
    | true =>
      have hF : Res W NoOld (fB c w u p ++ (famB (fB c w) (us.eraseIdx i) (qs.eraseIdx i) ++ F)) [] ([] ++ ([ropsV (some ⟨go, 0, none⟩) m co (us.flatMap uRow), rptrs (some ⟨gp, 0, none⟩) m cp (qs.map ptrV)] ++ ([boolsV (some ⟨gb, 0, none⟩) m m (us.map bV)] ++ V))) w3 := hr3.perm (((famB_focus hu hp).append_right F).trans (.of_eq (List.append_assoc _ _ _))) (.refl _)
      have ops : ∀ o ∈ ([⟨ropsV (some ⟨go, 0, none⟩) m co (us.flatMap uRow), go, elC 3 i (ropK 1 u.t u.N)⟩, ⟨rptrs (some ⟨gp, 0, none⟩) m cp (qs.map ptrV), gp, elC 1 i [(0, ptrV p)]⟩] : List Sy.Open), OpenOk o := opens_cons opO (opens_cons opP opens_nil)
      have fin : ∀ {o : Fin × List (Nat × Value) × Sy.Left} {s' : Int} {a4 : Act} {w4 : World}, Fr Tryd.f22.ntmps o.2.1 a4 → Res W NoOld (o.2.2.news ++ (o.2.2.blocks ++ (famB (fB c w) (us.eraseIdx i) (qs.eraseIdx i) ++ F))) [] (o.2.2.vecs ++ (reV [⟨ropsV (some ⟨go, 0, none⟩) m co (us.flatMap uRow), go, elC 3 i (ropK 1 u.t u.N)⟩, ⟨rptrs (some ⟨gp, 0, none⟩) m cp (qs.map ptrV), gp, elC 1 i [(0, ptrV p)]⟩] o.2.2.loose ++ ([boolsV (some ⟨gb, 0, none⟩) m m (us.map bV)] ++ V))) w4 →
          o.2.1 = cntK (some ⟨go, 0, none⟩) (some ⟨gp, 0, none⟩) (some ⟨gb, 0, none⟩) m co cp true s' (i + 1) → o.2.2.news = [] → o.2.2.blocks = fB c w u p → o.2.2.vecs = [] → o.2.2.loose = opL go (elC 3 i (ropK 1 u.t u.N)) (opL gp (elC 1 i [(0, ptrV p)]) []) → s' = ((us.take (i + 1)).map (cf true)).sum → Y 3 a4 w4 := fun {o s' a4 w4} hfr4 hr4 e1 e2 e3 e4 e5 e6 => by
        rw [e1, e6] at hfr4
        have er : reV [⟨ropsV (some ⟨go, 0, none⟩) m co (us.flatMap uRow), go, elC 3 i (ropK 1 u.t u.N)⟩, ⟨rptrs (some ⟨gp, 0, none⟩) m cp (qs.map ptrV), gp, elC 1 i [(0, ptrV p)]⟩] o.2.2.loose = [ropsV (some ⟨go, 0, none⟩) m co (us.flatMap uRow), rptrs (some ⟨gp, 0, none⟩) m cp (qs.map ptrV)] := by
          rw [e5]
          simp only [reV, ropsV, rptrs]
          rw [rO]
          simp only [elC, ropK, opL, reR, reL, smul_eq, Nat.mul_one, Nat.add_zero]
          rw [set_same' hp]
        rw [e2, e3, e4, er] at hr4
        exact hY (m - (i + 1)) a4 w4 (by omega) ⟨i + 1, rfl, hlt, hfr4, hr4.perm ((((famB_focus hu hp).append_right F).trans (.of_eq (List.append_assoc _ _ _))).symm) (.refl _)⟩
      cases hd : u.done with
      | true =>
        refine Res.segO (F := fB c w u p) (V := []) hostL _ (cntE go gp gb m co cp s i c u.t u.N (fnOf u.sw) (u.t / w) u.saw u.put u.done u.an p) cntE1_n (cntE1_1 go gp gb m co cp s i c u.t u.N (fnOf u.sw) (u.t / w) u.saw u.put u.done u.an p) (cntE1_2 go gp gb m co cp s i c u.t u.N (fnOf u.sw) (u.t / w) u.saw u.put u.done u.an p) _ (hF) (ops) (Looks.nil W) no_old no_ros rfl ?_ (fun _ _ => rfl) (fun _ _ => rfl) (fun _ _ => rfl) hfr3 fun ν j a4 w4 hfr4 hr4 => ?_
        · simp [cntE1_o, hd, hlt]
        · exact fin (o := cntE1_o go gp gb m co cp s i c u.t u.N (fnOf u.sw) (u.t / w) u.saw u.put u.done u.an p ν j) (s' := s + u.N) hfr4 hr4 (by simp only [cntE1_o, hwi, hsw]; rfl) rfl rfl rfl rfl (by rw [hsn]; simp [cf, hd])
      | false =>
        refine Res.segO (F := fB c w u p) (V := []) hostL _ (cntE go gp gb m co cp s i c u.t u.N (fnOf u.sw) (u.t / w) u.saw u.put u.done u.an p) cntE2_n (cntE2_1 go gp gb m co cp s i c u.t u.N (fnOf u.sw) (u.t / w) u.saw u.put u.done u.an p) (cntE2_2 go gp gb m co cp s i c u.t u.N (fnOf u.sw) (u.t / w) u.saw u.put u.done u.an p) _ (hF) (ops) (Looks.nil W) no_old no_ros rfl ?_ (fun _ _ => rfl) (fun _ _ => rfl) (fun _ _ => rfl) hfr3 fun ν j a4 w4 hfr4 hr4 => ?_
        · simp [cntE2_o, hd, hlt]
        · exact fin (o := cntE2_o go gp gb m co cp s i c u.t u.N (fnOf u.sw) (u.t / w) u.saw u.put u.done u.an p ν j) (s' := s) hfr4 hr4 (by simp only [cntE2_o, hwi]; rfl) rfl rfl rfl rfl (by rw [hsn]; simp [cf, hd])
    | false =>
      have hF : Res W NoOld ([] ++ (famB (fB c w) us qs ++ F)) [] ([] ++ ([ropsV (some ⟨go, 0, none⟩) m co (us.flatMap uRow), boolsV (some ⟨gb, 0, none⟩) m m (us.map bV)] ++ ([rptrs (some ⟨gp, 0, none⟩) m cp (qs.map ptrV)] ++ V))) w3 := hr3.perm (.refl _) (.cons _ (.swap ..))
      have ops : ∀ o ∈ ([⟨ropsV (some ⟨go, 0, none⟩) m co (us.flatMap uRow), go, elC 3 i (ropK 1 u.t u.N)⟩, ⟨boolsV (some ⟨gb, 0, none⟩) m m (us.map bV), gb, elC 1 i [(0, .bool u.bg)]⟩] : List Sy.Open), OpenOk o := opens_cons opO (opens_cons opB opens_nil)
      have fin : ∀ {o : Fin × List (Nat × Value) × Sy.Left} {s' : Int} {a4 : Act} {w4 : World}, Fr Tryd.f22.ntmps o.2.1 a4 → Res W NoOld (o.2.2.news ++ (o.2.2.blocks ++ (famB (fB c w) us qs ++ F))) [] (o.2.2.vecs ++ (reV [⟨ropsV (some ⟨go, 0, none⟩) m co (us.flatMap uRow), go, elC 3 i (ropK 1 u.t u.N)⟩, ⟨boolsV (some ⟨gb, 0, none⟩) m m (us.map bV), gb, elC 1 i [(0, .bool u.bg)]⟩] o.2.2.loose ++ ([rptrs (some ⟨gp, 0, none⟩) m cp (qs.map ptrV)] ++ V))) w4 →
          o.2.1 = cntK (some ⟨go, 0, none⟩) (some ⟨gp, 0, none⟩) (some ⟨gb, 0, none⟩) m co cp false s' (i + 1) → o.2.2.news = [] → o.2.2.blocks = [] → o.2.2.vecs = [] → o.2.2.loose = opL go (elC 3 i (ropK 1 u.t u.N)) (opL gb (elC 1 i [(0, .bool u.bg)]) []) → s' = ((us.take (i + 1)).map (cf false)).sum → Y 3 a4 w4 := fun {o s' a4 w4} hfr4 hr4 e1 e2 e3 e4 e5 e6 => by
        rw [e1, e6] at hfr4
        have er : reV [⟨ropsV (some ⟨go, 0, none⟩) m co (us.flatMap uRow), go, elC 3 i (ropK 1 u.t u.N)⟩, ⟨boolsV (some ⟨gb, 0, none⟩) m m (us.map bV), gb, elC 1 i [(0, .bool u.bg)]⟩] o.2.2.loose = [ropsV (some ⟨go, 0, none⟩) m co (us.flatMap uRow), boolsV (some ⟨gb, 0, none⟩) m m (us.map bV)] := by
          rw [e5]
          simp only [reV, ropsV, boolsV]
          rw [rO]
          simp only [elC, ropK, opL, reR, reL, smul_eq, Nat.mul_one, Nat.add_zero]
          rw [show Value.bool u.bg = bV u from rfl, set_same' hu]
        rw [e2, e3, e4, er] at hr4
        exact hY (m - (i + 1)) a4 w4 (by omega) ⟨i + 1, rfl, hlt, hfr4, hr4.perm (.refl _) (.cons _ (.swap ..))⟩
      cases hd : u.bg with
      | true =>
        rw [hd] at ops
        refine Res.segO (F := []) (V := []) hostL _ (cntB go gp gb m co cp s i u.t u.N true) cntB1_n (cntB1_1 go gp gb m co cp s i u.t u.N true) (cntB1_2 go gp gb m co cp s i u.t u.N true) _ (hF) (ops) (Looks.nil W) no_old no_ros rfl ?_ (fun _ _ => rfl) (fun _ _ => rfl) (fun _ _ => rfl) hfr3 fun ν j a4 w4 hfr4 hr4 => ?_
        · simp [cntB1_o, hlt]
        · rw [← hd] at hr4
          exact fin (o := cntB1_o go gp gb m co cp s i u.t u.N u.bg ν j) (s' := s + u.N) hfr4 hr4 (by simp only [cntB1_o, hwi, hsw]; rfl) rfl rfl rfl rfl (by rw [hsn]; simp [cf, hd])
      | false =>
        rw [hd] at ops
        refine Res.segO (F := []) (V := []) hostL _ (cntB go gp gb m co cp s i u.t u.N false) cntB2_n (cntB2_1 go gp gb m co cp s i u.t u.N false) (cntB2_2 go gp gb m co cp s i u.t u.N false) _ (hF) (ops) (Looks.nil W) no_old no_ros rfl ?_ (fun _ _ => rfl) (fun _ _ => rfl) (fun _ _ => rfl) hfr3 fun ν j a4 w4 hfr4 hr4 => ?_
        · simp [cntB2_o, hlt]
        · rw [← hd] at hr4
          exact fin (o := cntB2_o go gp gb m co cp s i u.t u.N u.bg ν j) (s' := s) hfr4 hr4 (by simp only [cntB2_o, hwi]; rfl) rfl rfl rfl rfl (by rw [hsn]; simp [cf, hd])
  · have hd : ¬ (i : Int) < m := by omega
    have htk : us.take i = us := List.take_of_length_le (by omega)
    rw [htk] at hfr3
    refine Res.segV (F := []) (V := []) hostL _ (cntX so sp (some ⟨gb, 0, none⟩) m co cp e ((us.map (cf e)).sum) i) cntX1_n (cntX1_1 so sp (some ⟨gb, 0, none⟩) m co cp e ((us.map (cf e)).sum) i) (cntX1_2 so sp (some ⟨gb, 0, none⟩) m co cp e ((us.map (cf e)).sum) i) (hr3) (Looks.nil W) no_old no_ros rfl ?_ (fun _ _ => rfl) (fun _ _ => rfl) hfr3 fun ν j a4 w4 hfr4 hr4 => ?_
    · simp [cntX1_o, hd]
    · exact ⟨rfl, hr4⟩
/-- A sum under way: so many slots have been looked at. -/
def sumB (c : Nat) (w t : Int) (n : Nat) (i : Nat) (s : Int) (so : Option Addr) (co : Nat) (z : Nat) : Bks := [(z, 90, sumV c t (Rg.k0 (t / w) n + i) s (decide (i = Rg.many (t / w) n)) (if i = Rg.many (t / w) n then s else 0) so i co)]
theorem sstep {W w0 : World} {c cb ws n : Nat} {w t : Int} {xs : List Int} {us : List RP} {F : Bks} {V : List Vec} {i z co : Nat} {so : Option Addr} {es : List Int} {s : Int} (hI : Inv n w (Rg.k0 (t / w) n) xs us) (hn1 : n ≤ 4096) (hlu : Sy.Looks W usesC) (ht0 : 0 ≤ t) (ht : t < 9223372036854775808) (hq1 : t / w ≤ 4294967295) (hi : i < Rg.many (t / w) n)
    (hs0 : 0 ≤ s) (hs1 : s ≤ 4294967295)
    (h : Res W NoOld ((rgB c cb ws n w ++ sumB c w t n i s so co z) ++ F) [] ([wordsV ws n n n (xs.map u64V), u64sV so i co (es.map u64V)] ++ V) w0) :
    Calls Tryd.prog 19 #[ptrV z] w0 fun e w' => ∃ (v : Value) (so' : Option Addr) (co' : Nat) (es' : List Int), e = .returned v ∧ Res W NoOld ((rgB c cb ws n w ++ sumB c w t n (i + 1) (s + Rg.dn w (Rg.k0 (t / w) n + i) us) so' co' z) ++ F) [] ([wordsV ws n n n (xs.map u64V), u64sV so' (i + 1) co' (es'.map u64V)] ++ V) w' := by
  refine calls_after (X := fun _ _ _ => False) Tryd.func19 stepBody stepTmps fun a1 ha => ?_
  have hn0 := hI.n0
  have hw := hI.w0
  have hq0 := Rg.div_nonneg ht0 hw
  have hq := Rg.tdiv_eq ht0 ht hw
  obtain ⟨q, hqe⟩ : ∃ q, q = t / w := ⟨_, rfl⟩
  have hne : ¬ i = Rg.many (t / w) n := by omega
  simp only [sumB, hne, decide_false, if_false] at h
  rw [← hqe] at hq hq0 hq1 hi h hI
  obtain ⟨hk0, hk1, hk2⟩ := Rg.k0_le hq0 hn0
  have hmn : Rg.many q n ≤ n ∧ (Rg.many q n : Int) = q - Rg.k0 q n + 1 := by unfold Rg.many; omega
  have hm := Rg.tmod_eq (n := n) (show 0 ≤ Rg.k0 q n + i by omega)
  have ha0 := Rg.at_nonneg (k := Rg.k0 q n + i) hn0
  have ha1 := Rg.at_lt (k := Rg.k0 q n + i) hn0
  have hnz : ¬ (n : Int) = 0 := by omega
  have hnz' : ¬ n = 0 := by omega
  have hw0 : ¬ w = 0 := by omega
  obtain ⟨x, hxe⟩ : ∃ x, x = seeAt xs (Rg.at_ (Rg.k0 q n + i) n) := ⟨_, rfl⟩
  have hval := hI.val (Rg.k0 q n + i) (by omega) (by omega)
  rw [← hxe] at hval
  have hc := Rg.cnt_range x
  have hwc : Rg.w64 (s + Rg.cnt x) = s + Rg.cnt x := by unfold Rg.w64; omega
  have hw00 : Rg.w64 s = s := by unfold Rg.w64; omega
  have hw1 : IntKind.i64.wrap (Rg.k0 q n + i + 1) = Rg.k0 q n + ((i + 1 : Nat) : Int) := by rw [wrap_i64 (by omega) (by omega)]; omega
  simp only [sumB, ← hqe, ← hval]
  rcases Classical.em (Rg.tick x = Rg.k0 q n + i) with hk | hk <;> rcases Classical.em (Rg.k0 q n + i = q) with hlast | hlast
  · have hh : Rg.held (Rg.k0 q n + i) x = Rg.cnt x := by simp [Rg.held, hk]
    have hlx : decide (i + 1 = Rg.many q n) = true := decide_eq_true (by omega)
    have hlz : (if i + 1 = Rg.many q n then s + Rg.cnt x else 0) = (if true = true then s + Rg.cnt x else 0)  := (if_pos (by omega)).trans (by simp)
    rw [hh, hlx, hlz]
    refine Res.segV (V := [wordsV ws n n n (xs.map u64V), u64sV so i co (es.map u64V)]) hostL _ (stS c cb ws n w t xs z (Rg.k0 q n + i) s so i co es) stS3_n (stS3_1 c cb ws n w t xs z (Rg.k0 q n + i) s so i co es) (stS3_2 c cb ws n w t xs z (Rg.k0 q n + i) s so i co es) (h) (hlu) no_old no_ros rfl ?_ (fun _ _ => rfl) (fun _ _ => rfl) ha fun ν j a2 w2 hfr2 hr2 => ?_
    · simp only [stS3_o, map_valU, all_u64, hq, hm, Rg.tick_def, Rg.cnt_def, ← hxe]
      have hb0 := ha0
      have hb1 := ha1
      have hkq := hk
      try rw [hlast] at hb0 hb1 hkq
      simp [hk, hkq, hlast, hnz, hnz', ha0, ha1, hb0, hb1, Cq.okq, addV_eq, u64sV, maxLen, hw0]
      try omega
    · obtain ⟨o, ho⟩ : ∃ o, o = stS3_o c cb ws n w t xs z (Rg.k0 q n + i) s so i co es ν j := ⟨_, rfl⟩
      obtain ⟨v, ev⟩ : ∃ v, o.1 = .ret v := by rw [ho]; exact ⟨_, rfl⟩
      rw [← ho] at hfr2 hr2
      rw [← ho, ev]
      obtain ⟨g, cap, p1, p2, p3⟩ : ∃ g cap, o.2.2.vecs = [wordsV ws n n n (xs.map u64V), u64sV (some ⟨g, 0, none⟩) (i + 1) cap ((es ++ [Rg.cnt x]).map u64V)] ∧ o.2.2.news = [] ∧ o.2.2.blocks = rgB c cb ws n w ++ [(z, 90, sumV c t (Rg.k0 q n + ((i + 1 : Nat) : Int)) (s + Rg.cnt x) true (if true = true then s + Rg.cnt x else 0) (some ⟨g, 0, none⟩) (i + 1) cap)] := by
        rw [ho, List.map_append]
        simp only [stS3_o, map_valU, hm, Rg.cnt_def, ← hxe, hw1, addV_eq]
        simp only [Rg.wrap_u, hwc, Int.add_zero]
        exact ⟨_, _, rfl, trivial, rfl⟩
      rw [p1, p2, p3] at hr2
      exact ⟨v, some ⟨g, 0, none⟩, cap, _, rfl, hr2⟩
  · have hh : Rg.held (Rg.k0 q n + i) x = Rg.cnt x := by simp [Rg.held, hk]
    have hlx : decide (i + 1 = Rg.many q n) = false := decide_eq_false (by omega)
    have hlz : (if i + 1 = Rg.many q n then s + Rg.cnt x else 0) = (if false = true then s + Rg.cnt x else 0)  := (if_neg (by omega)).trans (by simp)
    rw [hh, hlx, hlz]
    refine Res.segV (V := [wordsV ws n n n (xs.map u64V), u64sV so i co (es.map u64V)]) hostL _ (stS c cb ws n w t xs z (Rg.k0 q n + i) s so i co es) stS1_n (stS1_1 c cb ws n w t xs z (Rg.k0 q n + i) s so i co es) (stS1_2 c cb ws n w t xs z (Rg.k0 q n + i) s so i co es) (h) (hlu) no_old no_ros rfl ?_ (fun _ _ => rfl) (fun _ _ => rfl) ha fun ν j a2 w2 hfr2 hr2 => ?_
    · simp only [stS1_o, map_valU, all_u64, hq, hm, Rg.tick_def, Rg.cnt_def, ← hxe]
      have hb0 := ha0
      have hb1 := ha1
      have hkq := hk
      try rw [hlast] at hb0 hb1 hkq
      simp [hk, hkq, hlast, hnz, hnz', ha0, ha1, hb0, hb1, Cq.okq, addV_eq, u64sV, maxLen, hw0]
      try omega
    · obtain ⟨o, ho⟩ : ∃ o, o = stS1_o c cb ws n w t xs z (Rg.k0 q n + i) s so i co es ν j := ⟨_, rfl⟩
      obtain ⟨v, ev⟩ : ∃ v, o.1 = .ret v := by rw [ho]; exact ⟨_, rfl⟩
      rw [← ho] at hfr2 hr2
      rw [← ho, ev]
      obtain ⟨g, cap, p1, p2, p3⟩ : ∃ g cap, o.2.2.vecs = [wordsV ws n n n (xs.map u64V), u64sV (some ⟨g, 0, none⟩) (i + 1) cap ((es ++ [Rg.cnt x]).map u64V)] ∧ o.2.2.news = [] ∧ o.2.2.blocks = rgB c cb ws n w ++ [(z, 90, sumV c t (Rg.k0 q n + ((i + 1 : Nat) : Int)) (s + Rg.cnt x) false (if false = true then s + Rg.cnt x else 0) (some ⟨g, 0, none⟩) (i + 1) cap)] := by
        rw [ho, List.map_append]
        simp only [stS1_o, map_valU, hm, Rg.cnt_def, ← hxe, hw1, addV_eq]
        simp only [Rg.wrap_u, hwc, Int.add_zero]
        exact ⟨_, _, rfl, trivial, rfl⟩
      rw [p1, p2, p3] at hr2
      exact ⟨v, some ⟨g, 0, none⟩, cap, _, rfl, hr2⟩
  · have hh : Rg.held (Rg.k0 q n + i) x = 0 := by simp [Rg.held, hk]
    have hlx : decide (i + 1 = Rg.many q n) = true := decide_eq_true (by omega)
    have hlz : (if i + 1 = Rg.many q n then s + 0 else 0) = (if true = true then s + 0 else 0)  := (if_pos (by omega)).trans (by simp)
    rw [hh, hlx, hlz]
    refine Res.segV (V := [wordsV ws n n n (xs.map u64V), u64sV so i co (es.map u64V)]) hostL _ (stS c cb ws n w t xs z (Rg.k0 q n + i) s so i co es) stS4_n (stS4_1 c cb ws n w t xs z (Rg.k0 q n + i) s so i co es) (stS4_2 c cb ws n w t xs z (Rg.k0 q n + i) s so i co es) (h) (hlu) no_old no_ros rfl ?_ (fun _ _ => rfl) (fun _ _ => rfl) ha fun ν j a2 w2 hfr2 hr2 => ?_
    · simp only [stS4_o, map_valU, all_u64, hq, hm, Rg.tick_def, Rg.cnt_def, ← hxe]
      have hb0 := ha0
      have hb1 := ha1
      have hkq := hk
      try rw [hlast] at hb0 hb1 hkq
      simp [hk, hkq, hlast, hnz, hnz', ha0, ha1, hb0, hb1, Cq.okq, addV_eq, u64sV, maxLen, hw0]
      try omega
    · obtain ⟨o, ho⟩ : ∃ o, o = stS4_o c cb ws n w t xs z (Rg.k0 q n + i) s so i co es ν j := ⟨_, rfl⟩
      obtain ⟨v, ev⟩ : ∃ v, o.1 = .ret v := by rw [ho]; exact ⟨_, rfl⟩
      rw [← ho] at hfr2 hr2
      rw [← ho, ev]
      obtain ⟨g, cap, p1, p2, p3⟩ : ∃ g cap, o.2.2.vecs = [wordsV ws n n n (xs.map u64V), u64sV (some ⟨g, 0, none⟩) (i + 1) cap ((es ++ [0]).map u64V)] ∧ o.2.2.news = [] ∧ o.2.2.blocks = rgB c cb ws n w ++ [(z, 90, sumV c t (Rg.k0 q n + ((i + 1 : Nat) : Int)) (s + 0) true (if true = true then s + 0 else 0) (some ⟨g, 0, none⟩) (i + 1) cap)] := by
        rw [ho, List.map_append]
        simp only [stS4_o, map_valU, hm, Rg.cnt_def, ← hxe, hw1, addV_eq]
        simp only [Rg.wrap_u, hw00, Int.add_zero]
        exact ⟨_, _, rfl, trivial, rfl⟩
      rw [p1, p2, p3] at hr2
      exact ⟨v, some ⟨g, 0, none⟩, cap, _, rfl, hr2⟩
  · have hh : Rg.held (Rg.k0 q n + i) x = 0 := by simp [Rg.held, hk]
    have hlx : decide (i + 1 = Rg.many q n) = false := decide_eq_false (by omega)
    have hlz : (if i + 1 = Rg.many q n then s + 0 else 0) = (if false = true then s + 0 else 0)  := (if_neg (by omega)).trans (by simp)
    rw [hh, hlx, hlz]
    refine Res.segV (V := [wordsV ws n n n (xs.map u64V), u64sV so i co (es.map u64V)]) hostL _ (stS c cb ws n w t xs z (Rg.k0 q n + i) s so i co es) stS2_n (stS2_1 c cb ws n w t xs z (Rg.k0 q n + i) s so i co es) (stS2_2 c cb ws n w t xs z (Rg.k0 q n + i) s so i co es) (h) (hlu) no_old no_ros rfl ?_ (fun _ _ => rfl) (fun _ _ => rfl) ha fun ν j a2 w2 hfr2 hr2 => ?_
    · simp only [stS2_o, map_valU, all_u64, hq, hm, Rg.tick_def, Rg.cnt_def, ← hxe]
      have hb0 := ha0
      have hb1 := ha1
      have hkq := hk
      try rw [hlast] at hb0 hb1 hkq
      simp [hk, hkq, hlast, hnz, hnz', ha0, ha1, hb0, hb1, Cq.okq, addV_eq, u64sV, maxLen, hw0]
      try omega
    · obtain ⟨o, ho⟩ : ∃ o, o = stS2_o c cb ws n w t xs z (Rg.k0 q n + i) s so i co es ν j := ⟨_, rfl⟩
      obtain ⟨v, ev⟩ : ∃ v, o.1 = .ret v := by rw [ho]; exact ⟨_, rfl⟩
      rw [← ho] at hfr2 hr2
      rw [← ho, ev]
      obtain ⟨g, cap, p1, p2, p3⟩ : ∃ g cap, o.2.2.vecs = [wordsV ws n n n (xs.map u64V), u64sV (some ⟨g, 0, none⟩) (i + 1) cap ((es ++ [0]).map u64V)] ∧ o.2.2.news = [] ∧ o.2.2.blocks = rgB c cb ws n w ++ [(z, 90, sumV c t (Rg.k0 q n + ((i + 1 : Nat) : Int)) (s + 0) false (if false = true then s + 0 else 0) (some ⟨g, 0, none⟩) (i + 1) cap)] := by
        rw [ho, List.map_append]
        simp only [stS2_o, map_valU, hm, Rg.cnt_def, ← hxe, hw1, addV_eq]
        simp only [Rg.wrap_u, hw00, Int.add_zero]
        exact ⟨_, _, rfl, trivial, rfl⟩
      rw [p1, p2, p3] at hr2
      exact ⟨v, some ⟨g, 0, none⟩, cap, _, rfl, hr2⟩
end Go.Proofs.YthmhdiipejgkiaaDoor.rgs
