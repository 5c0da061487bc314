/- Rings: 'near' of the statements, and Step, whole. -/
import Derived.Test.YthmhdiipejgkiaaDoorRgSB
import Derived.Test.YthmhdiipejgkiaaDoorRgNum
set_option linter.unusedSimpArgs false
set_option linter.unusedVariables false
namespace Go.Proofs.YthmhdiipejgkiaaDoor.rgs
open Go Sy Close
set_option maxRecDepth 100000
open Rg (RP Inv)
def oRow (u : Int × Int) : List Value := [.int .u8 1, .int .i64 u.1, .int .u64 u.2]
theorem oRow_len (u : Int × Int) : (oRow u).length = 3 := rfl
def fnOf (sw : Bool) : FuncId := match sw with
  | true => 50
  | false => 38
def fB (c : Nat) (w : Int) (u : RP) (p : Nat) : Bks := [(p, 90, addV c u.t u.N (fnOf u.sw) (u.t / w) u.saw u.put u.done u.an)]
theorem nearBody : Tryd.f17.body = some (codeOf Tryd.f17) := by kernel_rfl
theorem nearTmps : 3 ≤ Tryd.f17.ntmps := by decide +kernel
/-- near. -/
theorem near {W w0 : World} {n : Nat} {w : Int} {F : Bks} {V : List Vec} {oa : Option Addr} {on oc : Nat} {l : List rgop.Op} (hl : l.length = on) (hcap : on ≤ oc) (hmax : oc ≤ maxLen) (hel : ∀ i y, l[i]? = some y → Elem W oa 3 i y.row) (hb : on ≤ 1048576)
    (hn0 : 0 < n) (hn1 : n ≤ 4096) (hw : 1 ≤ w) (h : Res W NoOld F [] V w0) :
    Calls Tryd.prog 17 #[.int .i64 n, .int .i64 w, .slice oa on oc] w0 fun e w' => ∃ us so m co lo hi, e = .returned (.slice so m co) ∧ m ≤ on ∧ us.length = m ∧ Rg.Near n w us lo hi ∧ Res W NoOld F [] (ropsV so m co (us.flatMap oRow) :: V) w' := by
  refine calls_after (X := fun _ _ _ => False) Tryd.func17 nearBody nearTmps fun a1 ha => ?_
  refine Res.segV (F := []) (V := []) hostL _ (nearA n w oa on oc) nearA1_n (nearA1_1 n w oa on oc) (nearA1_2 n w oa on oc) (h) (Looks.nil W) no_old no_ros rfl ?_ (fun _ _ => rfl) (fun _ _ => rfl) ha fun ν j a2 w2 hfr2 hr2 => ?_
  · simp [nearA1_o]
  have hI : Res W NoOld F [] (ropsV none 0 0 (([] : List (Int × Int)).flatMap oRow) :: V) w2 := res_nil hr2 _ _
  refine loop_after (i := 5) (by kernel_rfl) (fun d a w1 => ∃ (i : Nat) (us : List (Int × Int)) (so : Option Addr) (m co : Nat) (lo hi : Int), d = on - i ∧ i ≤ on ∧ m ≤ i ∧ us.length = m ∧ Fr Tryd.f17.ntmps (nearK n w oa on oc so m co (us.map Prod.snd).sum lo hi i) a ∧ (Rg.Near n w us lo hi ∧ lo ≤ 4294967295 ∧ 0 ≤ hi ∧ hi ≤ 4294967295) ∧ Res W NoOld F [] (ropsV so m co (us.flatMap oRow) :: V) w1) on ⟨0, [], none, 0, 0, 0, 0, rfl, Nat.zero_le _, Nat.le_refl _, rfl, hfr2, ⟨⟨by simp, by omega, by omega, by simp⟩, by omega, by omega, by omega⟩, hI⟩ ?_
  rintro d a3 w3 ⟨i, us, so, m, co, lo, hi, rfl, hi3, hmi, hlu, hfr3, ⟨hN, hlo, hh0, hhi⟩, hr3⟩ Y hY _
  by_cases hlt : i < on
  · obtain ⟨⟨k, t, N, ht, hN0⟩, hy⟩ : ∃ y, l[i]? = some y := ⟨_, List.getElem?_eq_getElem (by omega)⟩
    have he := hel i _ hy
    obtain ⟨ab, ao, rfl, _⟩ := hel i _ hy
    have hro := ro_elem' he (ropK k t N) (by simp [ropK, rgop.Op.row]) (by simp [ropK])
    have hwi := wrap_next hlt hcap hmax
    have hi' : (i : Int) < on := by omega
    have hw0 : ¬ w = 0 := by omega
    have hs0 : 0 ≤ (us.map Prod.snd).sum := Rg.sum_nonneg fun u hu => (hN.ok u hu).2.2.2.1
    have hs1 := hN.tot
    obtain ⟨s, hs⟩ : ∃ s, s = (us.map Prod.snd).sum := ⟨_, rfl⟩
    rw [← hs] at hfr3 hs0 hs1
    have hl0 := hN.lo0
    have stay : ∀ {o : Fin × List (Nat × Value) × Sy.Left} {a4 : Act} {w4 : World}, Fr Tryd.f17.ntmps o.2.1 a4 → Res W NoOld (o.2.2.news ++ (o.2.2.blocks ++ F)) [] (o.2.2.vecs ++ V) w4 → o.2.1 = nearK n w (some ⟨ab, ao, none⟩) on oc so m co s lo hi (i + 1) → o.2.2.news = [] → o.2.2.blocks = [] → o.2.2.vecs = [ropsV so m co (us.flatMap oRow)] → Y 5 a4 w4 := fun {o a4 w4} hfr4 hr4 e1 e2 e3 e4 => by
      rw [e1] at hfr4
      rw [e2, e3, e4] at hr4
      exact hY (on - (i + 1)) a4 w4 (by omega) ⟨i + 1, us, so, m, co, lo, hi, rfl, hlt, by omega, hlu, by rw [← hs]; exact hfr4, ⟨hN, hlo, hh0, hhi⟩, hr4⟩
    by_cases hk : k = 1
    rotate_left
    · refine Res.segV (F := []) (V := [ropsV so m co (us.flatMap oRow)]) hostL _ (nearR n w ab ao on oc so m co (us.flatMap oRow) s lo hi i k t N) nearR3_n (nearR3_1 n w ab ao on oc so m co (us.flatMap oRow) s lo hi i k t N) (nearR3_2 n w ab ao on oc so m co (us.flatMap oRow) s lo hi i k t N) (hr3) (hro) no_old no_ros rfl ?_ (fun _ _ => rfl) (fun _ _ => rfl) hfr3 fun ν j a4 w4 hfr4 hr4 => ?_
      · simp [nearR3_o, hlt, hk]
      · exact stay hfr4 hr4 (by simp only [nearR3_o, hwi]; rfl) rfl rfl rfl
    by_cases ht0 : t < 0
    · refine Res.segV (F := []) (V := [ropsV so m co (us.flatMap oRow)]) hostL _ (nearR n w ab ao on oc so m co (us.flatMap oRow) s lo hi i k t N) nearR4_n (nearR4_1 n w ab ao on oc so m co (us.flatMap oRow) s lo hi i k t N) (nearR4_2 n w ab ao on oc so m co (us.flatMap oRow) s lo hi i k t N) (hr3) (hro) no_old no_ros rfl ?_ (fun _ _ => rfl) (fun _ _ => rfl) hfr3 fun ν j a4 w4 hfr4 hr4 => ?_
      · simp [nearR4_o, hlt, hk, ht0]
      · exact stay hfr4 hr4 (by simp only [nearR4_o, hwi]; rfl) rfl rfl rfl
    have hq := Rg.tdiv_eq (show 0 ≤ t by omega) ht hw
    have hq0 : 0 ≤ t / w := Rg.div_nonneg (by omega) hw
    by_cases hqb : t / w > 4294967295
    · refine Res.segV (F := []) (V := [ropsV so m co (us.flatMap oRow)]) hostL _ (nearR n w ab ao on oc so m co (us.flatMap oRow) s lo hi i k t N) nearR5_n (nearR5_1 n w ab ao on oc so m co (us.flatMap oRow) s lo hi i k t N) (nearR5_2 n w ab ao on oc so m co (us.flatMap oRow) s lo hi i k t N) (hr3) (hro) no_old no_ros rfl ?_ (fun _ _ => rfl) (fun _ _ => rfl) hfr3 fun ν j a4 w4 hfr4 hr4 => ?_
      · simp only [nearR5_o, hq]
        simp [hlt, hk, ht0, hw0, hqb]; try omega
      · exact stay hfr4 hr4 (by simp only [nearR5_o, hwi]; rfl) rfl rfl rfl
    by_cases hNb : N > 4294967295
    · refine Res.segV (F := []) (V := [ropsV so m co (us.flatMap oRow)]) hostL _ (nearR n w ab ao on oc so m co (us.flatMap oRow) s lo hi i k t N) nearR6_n (nearR6_1 n w ab ao on oc so m co (us.flatMap oRow) s lo hi i k t N) (nearR6_2 n w ab ao on oc so m co (us.flatMap oRow) s lo hi i k t N) (hr3) (hro) no_old no_ros rfl ?_ (fun _ _ => rfl) (fun _ _ => rfl) hfr3 fun ν j a4 w4 hfr4 hr4 => ?_
      · simp only [nearR6_o, hq]
        simp [hlt, hk, ht0, hw0, hqb, hNb]; try omega
      · exact stay hfr4 hr4 (by simp only [nearR6_o, hwi]; rfl) rfl rfl rfl
    have hsw : IntKind.u64.wrap (s + N) = s + N := by rw [Rg.wrap_u]; unfold Rg.w64; omega
    by_cases hsN : s + N > 4294967295
    · refine Res.segV (F := []) (V := [ropsV so m co (us.flatMap oRow)]) hostL _ (nearR n w ab ao on oc so m co (us.flatMap oRow) s lo hi i k t N) nearR7_n (nearR7_1 n w ab ao on oc so m co (us.flatMap oRow) s lo hi i k t N) (nearR7_2 n w ab ao on oc so m co (us.flatMap oRow) s lo hi i k t N) (hr3) (hro) no_old no_ros rfl ?_ (fun _ _ => rfl) (fun _ _ => rfl) hfr3 fun ν j a4 w4 hfr4 hr4 => ?_
      · simp only [nearR7_o, hq, hsw]
        simp [hlt, hk, ht0, hw0, hqb, hNb, hsN]; try omega
      · exact stay hfr4 hr4 (by simp only [nearR7_o, hwi]; rfl) rfl rfl rfl
    obtain ⟨q, hqe⟩ : ∃ q, q = t / w := ⟨_, rfl⟩
    rw [← hqe] at hq hq0 hqb
    obtain ⟨hi2, hh2⟩ : ∃ x, x = (if q > hi then q else hi) := ⟨_, rfl⟩
    obtain ⟨lo2, hl2⟩ : ∃ x, x = (if q < lo then q else lo) := ⟨_, rfl⟩
    have hb2 : 0 ≤ lo2 ∧ lo2 ≤ 4294967295 ∧ 0 ≤ hi2 ∧ hi2 ≤ 4294967295 ∧ lo2 ≤ lo ∧ lo2 ≤ q ∧ hi ≤ hi2 ∧ q ≤ hi2 := by
      rw [hh2, hl2]
      refine ⟨?_, ?_, ?_, ?_, ?_, ?_, ?_, ?_⟩ <;> split <;> omega
    have hwd : IntKind.i64.wrap (hi2 - lo2) = hi2 - lo2 := wrap_i64 (by omega) (by omega)
    have more : ∀ {lo' hi' : Int}, (∀ u ∈ us, lo' ≤ u.1 / w ∧ u.1 / w ≤ hi') → lo' ≤ q → q ≤ hi' → 0 ≤ lo' → hi' - lo' < n → Rg.Near n w (us ++ [(t, N)]) lo' hi' := fun {lo' hi'} a1 a2 a3 a4 a5 => by
      refine ⟨fun u hu => ?_, a4, a5, ?_⟩
      · rcases List.mem_append.1 hu with hu | hu
        · obtain ⟨b1, b2, b3, b4, b5, _, _⟩ := hN.ok u hu
          exact ⟨b1, b2, b3, b4, b5, (a1 u hu).1, (a1 u hu).2⟩
        · rw [List.mem_singleton.1 hu]
          simp only
          rw [← hqe]
          exact ⟨by omega, ht, by omega, hN0, by omega, a2, a3⟩
      · rw [List.map_append, List.sum_append, ← hs]
        simp only [List.map_cons, List.map_nil, List.sum_cons, List.sum_nil]
        omega
    have hsum : ((us ++ [(t, N)]).map Prod.snd).sum = s + N := by rw [List.map_append, List.sum_append, ← hs]; simp
    by_cases hm0 : m = 0
    · have hus : us = [] := List.eq_nil_of_length_eq_zero (by omega)
      have hqq : (if q < q then q else q) = q := by split <;> rfl
      have hqq2 : (if q > q then q else q) = q := by split <;> rfl
      refine Res.segV (F := []) (V := [ropsV so m co (us.flatMap oRow)]) hostL _ (nearR n w ab ao on oc so m co (us.flatMap oRow) s lo hi i k t N) nearR1_n (nearR1_1 n w ab ao on oc so m co (us.flatMap oRow) s lo hi i k t N) (nearR1_2 n w ab ao on oc so m co (us.flatMap oRow) s lo hi i k t N) (hr3) (hro) no_old no_ros rfl ?_ (fun _ _ => rfl) (fun _ _ => rfl) hfr3 fun ν j a4 w4 hfr4 hr4 => ?_
      · simp only [nearR1_o, hq, hsw]
        simp [hlt, hk, ht0, hw0, hqb, hNb, hsN, hm0, ropsV, addV_eq, maxLen]; try omega
      · obtain ⟨o, ho⟩ : ∃ o, o = nearR1_o n w ab ao on oc so m co (us.flatMap oRow) s lo hi i k t N ν j := ⟨_, rfl⟩
        rw [← ho] at hfr4 hr4
        obtain ⟨go, co', e1, e2, e3, e4⟩ : ∃ go co', o.2.1 = nearK n w (some ⟨ab, ao, none⟩) on oc (some ⟨go, 0, none⟩) (m + 1) co' (s + N) q q (i + 1) ∧ o.2.2.vecs = [ropsV (some ⟨go, 0, none⟩) (m + 1) co' (us.flatMap oRow ++ [.int .u8 1, .int .i64 t, .int .u64 N])] ∧ o.2.2.news = [] ∧ o.2.2.blocks = [] := by
          rw [ho]
          simp only [nearR1_o, hwi, hq, hsw, addV_eq, hqq, hqq2, hk]
          exact ⟨_, _, rfl, rfl, trivial, trivial⟩
        rw [e1, ← hsum] at hfr4
        rw [e2, e3, e4] at hr4
        exact hY (on - (i + 1)) a4 w4 (by omega) ⟨i + 1, us ++ [(t, N)], _, m + 1, co', q, q, rfl, hlt, by omega, by simp [hlu], hfr4, ⟨more (by simp [hus]) (Int.le_refl _) (Int.le_refl _) hq0 (by omega), by omega, hq0, by omega⟩, by simpa [List.flatMap_append, oRow] using hr4⟩
    by_cases hgap : hi2 - lo2 ≥ n
    · refine Res.segV (F := []) (V := [ropsV so m co (us.flatMap oRow)]) hostL _ (nearR n w ab ao on oc so m co (us.flatMap oRow) s lo hi i k t N) nearR8_n (nearR8_1 n w ab ao on oc so m co (us.flatMap oRow) s lo hi i k t N) (nearR8_2 n w ab ao on oc so m co (us.flatMap oRow) s lo hi i k t N) (hr3) (hro) no_old no_ros rfl ?_ (fun _ _ => rfl) (fun _ _ => rfl) hfr3 fun ν j a4 w4 hfr4 hr4 => ?_
      · simp only [nearR8_o, hq, hsw, ← hh2, ← hl2, hwd]
        simp [hlt, hk, ht0, hw0, hqb, hNb, hsN, hm0, hgap]; try omega
      · exact stay hfr4 hr4 (by simp only [nearR8_o, hwi]; rfl) rfl rfl rfl
    · refine Res.segV (F := []) (V := [ropsV so m co (us.flatMap oRow)]) hostL _ (nearR n w ab ao on oc so m co (us.flatMap oRow) s lo hi i k t N) nearR2_n (nearR2_1 n w ab ao on oc so m co (us.flatMap oRow) s lo hi i k t N) (nearR2_2 n w ab ao on oc so m co (us.flatMap oRow) s lo hi i k t N) (hr3) (hro) no_old no_ros rfl ?_ (fun _ _ => rfl) (fun _ _ => rfl) hfr3 fun ν j a4 w4 hfr4 hr4 => ?_
      · simp only [nearR2_o, hq, hsw, ← hh2, ← hl2, hwd]
        simp [hlt, hk, ht0, hw0, hqb, hNb, hsN, hm0, hgap, ropsV, addV_eq, maxLen]; try omega
      · obtain ⟨o, ho⟩ : ∃ o, o = nearR2_o n w ab ao on oc so m co (us.flatMap oRow) s lo hi i k t N ν j := ⟨_, rfl⟩
        rw [← ho] at hfr4 hr4
        obtain ⟨go, co', e1, e2, e3, e4⟩ : ∃ go co', o.2.1 = nearK n w (some ⟨ab, ao, none⟩) on oc (some ⟨go, 0, none⟩) (m + 1) co' (s + N) lo2 hi2 (i + 1) ∧ o.2.2.vecs = [ropsV (some ⟨go, 0, none⟩) (m + 1) co' (us.flatMap oRow ++ [.int .u8 1, .int .i64 t, .int .u64 N])] ∧ o.2.2.news = [] ∧ o.2.2.blocks = [] := by
          rw [ho]
          simp only [nearR2_o, hwi, hq, hsw, addV_eq, hk, ← hh2, ← hl2]
          exact ⟨_, _, rfl, rfl, trivial, trivial⟩
        rw [e1, ← hsum] at hfr4
        rw [e2, e3, e4] at hr4
        exact hY (on - (i + 1)) a4 w4 (by omega) ⟨i + 1, us ++ [(t, N)], _, m + 1, co', lo2, hi2, rfl, hlt, by omega, by simp [hlu], hfr4, ⟨more (fun u hu => by have := (hN.ok u hu).2.2.2.2.2; omega) (by omega) (by omega) (by omega) (by omega), by omega, by omega, by omega⟩, by simpa [List.flatMap_append, oRow] using hr4⟩
  · have hd : ¬ (i : Int) < on := by omega
    refine Res.segV (F := []) (V := []) hostL _ (nearX n w oa on oc so m co (us.map Prod.snd).sum lo hi i) nearX1_n (nearX1_1 n w oa on oc so m co (us.map Prod.snd).sum lo hi i) (nearX1_2 n w oa on oc so m co (us.map Prod.snd).sum lo hi i) (hr3) (Looks.nil W) no_old no_ros rfl ?_ (fun _ _ => rfl) (fun _ _ => rfl) hfr3 fun ν j a4 w4 hfr4 hr4 => ?_
    · simp [nearX1_o, hd]
    · exact ⟨us, so, m, co, lo, hi, rfl, by omega, hlu, hN, hr4⟩
theorem stepBody : Tryd.f19.body = some (codeOf Tryd.f19) := by kernel_rfl
theorem stepTmps : 1 ≤ Tryd.f19.ntmps := by decide +kernel
/-- An add's action. -/
theorem astep {W w0 : World} {c cb ws n : Nat} {w lo : Int} {xs : List Int} {us : List RP} {qs : List Nat} {F : Bks} {V : List Vec} {j0 : Nat} {u : RP} {p : Nat} (hI : Inv n w lo xs us) (hn1 : n ≤ 4096) (hlu : Sy.Looks W usesC) (hu : us[j0]? = some u) (hp : qs[j0]? = some p)
    (h : Res W NoOld (rgB c cb ws n w ++ (famB (fB c w) us qs ++ F)) [] ([wordsV ws n n n (xs.map u64V)] ++ V) w0) (b : Bool) :
    Calls Tryd.prog 19 #[ptrV p] w0 fun e w' => ∃ v, e = .returned v ∧ Res W NoOld (rgB c cb ws n w ++ (famB (fB c w) (us.set j0 { (Rg.stp n w xs u).2 with bg := b }) qs ++ F)) [] ([wordsV ws n n n ((Rg.stp n w xs u).1.map u64V)] ++ V) w' := by
  refine calls_after (X := fun _ _ _ => False) Tryd.func19 stepBody stepTmps fun a1 ha => ?_
  have hF : Res W NoOld ((rgB c cb ws n w ++ fB c w u p) ++ (famB (fB c w) (us.eraseIdx j0) (qs.eraseIdx j0) ++ F)) [] ([wordsV ws n n n (xs.map u64V)] ++ V) w0 :=
    h.perm (by rw [List.append_assoc]; exact perm_in (((famB_focus hu hp).append_right F).trans (.of_eq (List.append_assoc _ _ _)))) (.refl _)
  have fin : ∀ {o : Fin × List (Nat × Value) × Sy.Left} {w2 : World}, Res W NoOld (o.2.2.news ++ (o.2.2.blocks ++ (famB (fB c w) (us.eraseIdx j0) (qs.eraseIdx j0) ++ F))) [] (o.2.2.vecs ++ V) w2 → o.2.2.news = [] → o.2.2.blocks = rgB c cb ws n w ++ fB c w (Rg.stp n w xs u).2 p → o.2.2.vecs = [wordsV ws n n n ((Rg.stp n w xs u).1.map u64V)] →
      Res W NoOld (rgB c cb ws n w ++ (famB (fB c w) (us.set j0 { (Rg.stp n w xs u).2 with bg := b }) qs ++ F)) [] ([wordsV ws n n n ((Rg.stp n w xs u).1.map u64V)] ++ V) w2 := fun {o w2} hr e1 e2 e3 => by
    rw [e1, e2, e3] at hr
    refine hr.perm ?_ (.refl _)
    rw [List.nil_append, List.append_assoc]
    refine perm_in ?_
    rw [← List.append_assoc]
    exact (famB_set (f := fB c w) (u' := { (Rg.stp n w xs u).2 with bg := b }) hu hp).append_right F
  obtain ⟨h1, h2, h3, h4, h5, h6⟩ := hI.ok u (List.mem_of_getElem? hu)
  have hn0 := hI.n0
  have hq0 : 0 ≤ u.t / w := Rg.div_nonneg h1 hI.w0
  have hm := Rg.tmod_eq (n := n) hq0
  have ha0 := Rg.at_nonneg (k := u.t / w) hn0
  have ha1 := Rg.at_lt (k := u.t / w) hn0
  have hnz : ¬ (n : Int) = 0 := by omega
  have hnz' : ¬ n = 0 := by omega
  by_cases hd : u.done = true
  · have hs : Rg.stp n w xs u = (xs, u) := by simp [Rg.stp, hd]
    refine Res.segV (F := rgB c cb ws n w ++ fB c w u p) (V := [wordsV ws n n n (xs.map u64V)]) hostL _ (stA c cb ws n w xs p u.t u.N (fnOf u.sw) (u.t / w) u.saw u.put u.done u.an) stA5_n (stA5_1 c cb ws n w xs p u.t u.N (fnOf u.sw) (u.t / w) u.saw u.put u.done u.an) (stA5_2 c cb ws n w xs p u.t u.N (fnOf u.sw) (u.t / w) u.saw u.put u.done u.an) (hF) (hlu) no_old no_ros rfl ?_ (fun _ _ => rfl) (fun _ _ => rfl) ha fun ν j a2 w2 hfr2 hr2 => ?_
    · simp [stA5_o, hd]
    · exact ⟨_, rfl, fin hr2 rfl (by rw [hs]; rfl) (by rw [hs]; rfl)⟩
  have hd' : u.done = false := by simpa using hd
  obtain ⟨hx1, hx2⟩ := Rg.load_ok hI hu hd'
  obtain ⟨x, hxe⟩ : ∃ x, x = seeAt xs (Rg.at_ (u.t / w) n) := ⟨_, rfl⟩
  cases hsw : u.sw with
  | true =>
    have hfb : fB c w u p = [(p, 90, addV c u.t u.N 50 (u.t / w) u.saw u.put false u.an)] := by simp only [fB, hsw, hd', fnOf]
    rw [hfb] at hF
    by_cases he : x = u.saw
    · have hs : Rg.stp n w xs u = (putAt xs (Rg.at_ (u.t / w) n) u.put, { u with sw := false, done := true, an := Rg.cnt u.put }) := by simp [Rg.stp, hd', hsw, ← hxe, he]
      refine Res.segV (F := rgB c cb ws n w ++ [(p, 90, addV c u.t u.N 50 (u.t / w) u.saw u.put false u.an)]) (V := [wordsV ws n n n (xs.map u64V)]) hostL _ (stAS c cb ws n w xs p u.t u.N (u.t / w) u.saw u.put u.an) stA3_n (stA3_1 c cb ws n w xs p u.t u.N (u.t / w) u.saw u.put u.an) (stA3_2 c cb ws n w xs p u.t u.N (u.t / w) u.saw u.put u.an) (hF) (hlu) no_old no_ros rfl ?_ (fun _ _ => rfl) (fun _ _ => rfl) ha fun ν j a2 w2 hfr2 hr2 => ?_
      · simp only [stA3_o, hm, map_valU, all_u64, ← hxe]
        simp [he, hnz, hnz', ha0, ha1, Cq.okq, Cq.ok]
      · refine ⟨_, rfl, fin hr2 rfl ?_ ?_⟩
        · rw [hs]; simp only [stA3_o, Rg.cnt_def]; rfl
        · rw [hs]; simp only [stA3_o, hm, map_valU, ← hxe]; simp [Cq.put, he, rowNow, wordsV]
    · have hs : Rg.stp n w xs u = (xs, { u with sw := false }) := by simp [Rg.stp, hd', hsw, ← hxe, he]
      refine Res.segV (F := rgB c cb ws n w ++ [(p, 90, addV c u.t u.N 50 (u.t / w) u.saw u.put false u.an)]) (V := [wordsV ws n n n (xs.map u64V)]) hostL _ (stAS c cb ws n w xs p u.t u.N (u.t / w) u.saw u.put u.an) stA4_n (stA4_1 c cb ws n w xs p u.t u.N (u.t / w) u.saw u.put u.an) (stA4_2 c cb ws n w xs p u.t u.N (u.t / w) u.saw u.put u.an) (hF) (hlu) no_old no_ros rfl ?_ (fun _ _ => rfl) (fun _ _ => rfl) ha fun ν j a2 w2 hfr2 hr2 => ?_
      · simp only [stA4_o, hm, map_valU, all_u64, ← hxe]
        simp [he, hnz, hnz', ha0, ha1, Cq.okq, Cq.ok]
      · refine ⟨_, rfl, fin hr2 rfl ?_ ?_⟩
        · rw [hs]; simp only [stA4_o, fB, hd']; rfl
        · have hsee := (Rg.see_lt hI (k := u.t / w)).2.2
          rw [hxe] at he; rw [hs]; simp only [stA4_o, hm, map_valU]; simp [Cq.put, he, rowNow, wordsV, put_same hsee]
  | false =>
    have hfb : fB c w u p = [(p, 90, addV c u.t u.N 38 (u.t / w) u.saw u.put false u.an)] := by simp only [fB, hsw, hd', fnOf]
    rw [hfb] at hF
    have hs : Rg.stp n w xs u = (xs, { u with sw := true, saw := x, put := Rg.put (u.t / w) u.N x }) := by simp [Rg.stp, hd', hsw, ← hxe]
    rw [← hxe] at hx1 hx2
    have hc := Rg.cnt_range x
    by_cases hk : Rg.tick x = u.t / w
    · have hh : Rg.held (u.t / w) x = Rg.cnt x := by simp [Rg.held, hk]
      rw [hh] at hx2
      have hwc : Rg.w64 (Rg.cnt x + u.N) = Rg.cnt x + u.N := by unfold Rg.w64; omega
      refine Res.segV (F := rgB c cb ws n w ++ [(p, 90, addV c u.t u.N 38 (u.t / w) u.saw u.put false u.an)]) (V := [wordsV ws n n n (xs.map u64V)]) hostL _ (stAL c cb ws n w xs p u.t u.N (u.t / w) u.saw u.put u.an) stA1_n (stA1_1 c cb ws n w xs p u.t u.N (u.t / w) u.saw u.put u.an) (stA1_2 c cb ws n w xs p u.t u.N (u.t / w) u.saw u.put u.an) (hF) (hlu) no_old no_ros rfl ?_ (fun _ _ => rfl) (fun _ _ => rfl) ha fun ν j a2 w2 hfr2 hr2 => ?_
      · simp only [stA1_o, hm, map_valU, all_u64, Rg.tick_def, Rg.cnt_def, ← hxe]
        simp only [Rg.wrap_u, hwc]
        simp [hk, hnz, hnz', ha0, ha1, Cq.okq]; try omega
      · refine ⟨_, rfl, fin hr2 rfl ?_ ?_⟩
        · rw [hs]; simp only [stA1_o, hm, map_valU, Rg.cnt_def, ← hxe, fB, hd', fnOf, Rg.put, hh, Rg.shl_def]; simp only [Rg.wrap_u]; rfl
        · rw [hs]; rfl
    · have hh : Rg.held (u.t / w) x = 0 := by simp [Rg.held, hk]
      rw [hh] at hx2
      have hwc : Rg.w64 u.N = u.N := by unfold Rg.w64; omega
      refine Res.segV (F := rgB c cb ws n w ++ [(p, 90, addV c u.t u.N 38 (u.t / w) u.saw u.put false u.an)]) (V := [wordsV ws n n n (xs.map u64V)]) hostL _ (stAL c cb ws n w xs p u.t u.N (u.t / w) u.saw u.put u.an) stA2_n (stA2_1 c cb ws n w xs p u.t u.N (u.t / w) u.saw u.put u.an) (stA2_2 c cb ws n w xs p u.t u.N (u.t / w) u.saw u.put u.an) (hF) (hlu) no_old no_ros rfl ?_ (fun _ _ => rfl) (fun _ _ => rfl) ha fun ν j a2 w2 hfr2 hr2 => ?_
      · simp only [stA2_o, hm, map_valU, all_u64, Rg.tick_def, Rg.cnt_def, ← hxe]
        simp only [Rg.wrap_u, Int.zero_add, hwc]
        simp [hk, hnz, hnz', ha0, ha1, Cq.okq]; try omega
      · refine ⟨_, rfl, fin hr2 rfl ?_ ?_⟩
        · rw [hs]; simp only [stA2_o, hm, map_valU, Rg.cnt_def, ← hxe, fB, hd', fnOf, Rg.put, hh, Rg.shl_def]; simp only [Rg.wrap_u]; rfl
        · rw [hs]; rfl
end Go.Proofs.YthmhdiipejgkiaaDoor.rgs
