/- RingPlain: the walk whole. -/
import Derived.Test.YthmhdiipejgkiaaDoorRgQB
import Derived.Test.YthmhdiipejgkiaaDoorRgOp
set_option linter.unusedSimpArgs false
set_option linter.unusedVariables false
namespace Go.Proofs.YthmhdiipejgkiaaDoor.rplain
open Go Sy Close
set_option maxRecDepth 100000
theorem body : Tryd.f3.body = some (codeOf Tryd.f3) := by kernel_rfl
theorem ntmps : 3 ≤ Tryd.f3.ntmps := by decide +kernel
theorem many_le {q : Int} {n : Nat} (hq : 0 ≤ q) (hn : 0 < n) : Rg.many q n ≤ n := by
  have := Rg.k0_le hq hn
  unfold Rg.many
  omega
theorem bad0 {w t N : Int} (h : Rg.bad w t 0 = true) : Rg.why 0 w [] t N ≠ 0 ∧ ∀ n xs, Rg.why n w xs t N = 2 := by
  have : Rg.bad w t N = true := by
    simp only [Rg.bad, Bool.or_eq_true, decide_eq_true_eq] at h ⊢
    omega
  exact ⟨by simp [Rg.why, this], fun n xs => by simp [Rg.why, this]⟩
theorem good0 {n : Nat} {w t N : Int} {xs : List Int} (hN : 0 ≤ N) (h : Rg.why n w xs t N = 0) : Rg.bad w t 0 = false := by
  cases hb : Rg.bad w t 0 with
  | false => rfl
  | true => rw [(bad0 hb).2 n xs] at h; cases h
abbrev Bk := List (Nat × TypeId × List Value)
def Inv (W : World) (c cb ws n bk gb gc : Nat) (w : Int) (xs : List Int) (w1 : World) : Prop :=
  ∃ (G : List Vec), Res W NoOld ((ringB c cb ws n w ++ bookB bk gb n gc w) ++ []) [] ([wordsV ws n n n (xs.map u64V), u64S gb n gc xs] ++ G) w1
theorem p1 {α : Type} (w a b e f : α) (G : List α) : ([w, a, b, e, f] ++ G).Perm ([e] ++ (w :: b :: a :: f :: G)) :=
  (List.perm_middle (l₁ := [w, a, b]) (l₂ := f :: G)).trans (.cons e (.cons w (.swap ..)))
theorem p2 {α : Type} (w a e f : α) (G : List α) : ([w, a, e, f] ++ G).Perm ([e] ++ (w :: a :: f :: G)) := List.perm_middle (l₁ := [w, a]) (l₂ := f :: G)
theorem calls {W : World} (n w : Int) {oa : Option Addr} {on oc : Nat} {l : List rgop.Op} (hl : l.length = on) (hcap : on ≤ oc) (hmax : oc ≤ maxLen) (hel : ∀ i y, l[i]? = some y → Elem W oa 3 i y.row) (hU : UsesAt W) :
    Calls Tryd.prog 3 #[.int .i64 n, .int .i64 w, .slice oa on oc] W (Done W) := by
  have hlu := looksUses hU
  refine calls_after (X := fun _ _ _ => False) Tryd.func3 body ntmps fun a1 ha => ?_
  cases hok : Rg.okNew n w with
  | false =>
    refine Res.segV (F := []) (GF := []) (V := []) (GV := []) hostL _ (rpA n w oa on oc) rpA1_n (rpA1_1 n w oa on oc) (rpA1_2 n w oa on oc) (Res.start) (hlu) no_old no_ros rfl ?_ (fun _ _ => rfl) (fun _ _ => rfl) ha fun ν j a2 w2 hfr2 hr2 => ?_
    · simp [rpA1_o, hok]
    · exact ⟨rfl, res_old hr2⟩
  | true =>
  have hok' := hok
  simp only [Rg.okNew, Bool.and_eq_true, decide_eq_true_eq] at hok'
  obtain ⟨⟨⟨h1, h2⟩, hw⟩, h4⟩ := hok'
  obtain ⟨n, rfl⟩ : ∃ n' : Nat, n = n' := ⟨n.toNat, by omega⟩
  have hn0 : 0 < n := by omega
  have hn1 : n ≤ 4096 := by omega
  refine Res.segV (F := []) (GF := []) (V := []) (GV := []) hostL _ (rpA n w oa on oc) rpA2_n (rpA2_1 n w oa on oc) (rpA2_2 n w oa on oc) (Res.start) (hlu) no_old no_ros rfl ?_ (fun _ _ => rfl) (fun _ _ => rfl) ha fun ν j a2 w2 hfr2 hr2 => ?_
  · simp [rpA2_o, hok]
  obtain ⟨o, ho⟩ : ∃ o, o = rpA2_o n w oa on oc ν j := ⟨_, rfl⟩
  rw [← ho] at hfr2 hr2
  obtain ⟨c, cb, ws, bk, gb, e1, e2, e3⟩ : ∃ c cb ws bk gb, o.2.1 = rpK c bk oa on oc 0 ∧ o.2.2.news = (ringB c cb ws n w ++ bookB bk gb n n w).reverse ∧ o.2.2.vecs = [wordsV ws n n n ((List.replicate n (0 : Int)).map u64V), u64S gb n n (List.replicate n (0 : Int))] := by
    rw [ho]; exact ⟨_, _, _, _, _, rfl, rfl, rfl⟩
  have e4 : o.2.2.blocks = [] := by rw [ho]; rfl
  rw [e1] at hfr2
  rw [e2, e3, e4] at hr2
  have hI : Inv W c cb ws n bk gb n w (List.replicate n (0 : Int)) w2 := ⟨[], hr2.perm ((List.reverse_perm _).append_right _) (.refl _)⟩
  refine loop_after (i := 8) (by kernel_rfl) (fun d a w2 => ∃ (i gb gc : Nat) (xs : List Int), d = on - i ∧ i ≤ on ∧ Fr Tryd.f3.ntmps (rpK c bk oa on oc i) a ∧ Inv W c cb ws n bk gb gc w xs w2) on ⟨0, gb, n, _, rfl, Nat.zero_le _, hfr2, hI⟩ ?_
  clear hI hr2 hfr2 e1 e2 e3 e4 ho o
  rintro d a3 w3 ⟨i, gb, gc, xs, rfl, hi, hfr3, G, hr3⟩ Y hY _
  by_cases hlt : i < on
  · obtain ⟨⟨k, t, N, ht, hN⟩, hy⟩ : ∃ y, l[i]? = some y := ⟨_, List.getElem?_eq_getElem (by omega)⟩
    have he := hel i _ hy
    obtain ⟨ab, ao, rfl, _⟩ := hel i _ hy
    have hro := ro_elem hU he [(0, .int .u8 k), (1, .int .i64 t), (2, .int .u64 N)] (by simp [rgop.Op.row]) (by simp)
    have hwi := wrap_next hlt hcap hmax
    have hi' : (i : Int) < on := by omega
    have hbk : bookOk n w t = true := by simp [bookOk, hw, hn0, hn1, ht]
    have hsu : sumOk n n (n : Int) w t = true := by simp [sumOk, ringOk, hw, hn0, hn1, ht]
    have hri : ringOk n n (n : Int) w = true := by simp [ringOk, hw, hn0]
    have htn : okTN t N = true := by simp [okTN, ht, hN]
    -- the inner loop, and what comes behind it
    have inner : ∀ (gb gc : Nat) (xs es : List Int) (so : Option Addr) (m co : Nat) (G : List Vec) (a w5), m ≤ 4096 → es.length = m → (0 < m → ∃ g, so = some ⟨g, 0, none⟩) → Fr Tryd.f3.ntmps (rpL c bk (some ⟨ab, ao, none⟩) on oc i so m co 0) a →
        Res W NoOld ([] ++ (ringB c cb ws n w ++ bookB bk gb n gc w)) [] ([u64sV so m co (es.map u64V)] ++ (wordsV ws n n n (xs.map u64V) :: u64S gb n gc xs :: G)) w5 →
        Owed Tryd.prog Tryd.f3 Y (Done W) (.loop (cutAt Tryd.f3 22).1 (cutAt Tryd.f3 22).2) a w5 := by
      intro gb gc xs es so m co G a w5 hm he5 hso hfr5 hr5
      refine loop_after (i := 22) (by kernel_rfl) (fun d a wz => ∃ (z : Nat) (es : List Int), d = m - z ∧ z ≤ m ∧ es.length = m ∧ Fr Tryd.f3.ntmps (rpL c bk (some ⟨ab, ao, none⟩) on oc i so m co z) a ∧ Res W NoOld ([] ++ (ringB c cb ws n w ++ bookB bk gb n gc w)) [] ([u64sV so m co (es.map u64V)] ++ (wordsV ws n n n (xs.map u64V) :: u64S gb n gc xs :: G)) wz) m ⟨0, es, rfl, Nat.zero_le _, he5, hfr5, hr5⟩ ?_
      clear hfr5 hr5 he5
      rintro d a6 w6 ⟨z, es, rfl, hz, he6, hfr6, hr6⟩ Z hZ hYZ
      by_cases hzl : z < m
      · obtain ⟨g, rfl⟩ := hso (by omega)
        have hze : z < es.length := by omega
        have hwz : IntKind.i64.wrap ((z : Int) + 1) = ((z + 1 : Nat) : Int) := by rw [wrap_i64 (by omega) (by omega)]; simp
        refine Res.segV (F := []) (V := [u64sV (some ⟨g, 0, none⟩) m co (es.map u64V)]) hostL _ (rpI c bk (some ⟨ab, ao, none⟩) on oc i g m co es z) rpI1_n (rpI1_1 c bk (some ⟨ab, ao, none⟩) on oc i g m co es z) (rpI1_2 c bk (some ⟨ab, ao, none⟩) on oc i g m co es z) (hr6) (Looks.nil W) no_old no_ros rfl ?_ (fun _ _ => rfl) (fun _ _ => rfl) hfr6 fun ν j a7 w7 hfr7 hr7 => ?_
        · simp only [rpI1_o, isK_u64, valI_u64, set_u64, map_valU, all_u64, isK_i64, valI_i64, set_i64, isK_bool, valB_bool, set_bool, sadd_eq, smul_eq, Nat.mul_one, Nat.zero_add, Nat.add_zero, List.length_map, Int.toNat_natCast]
          simp [hzl, hze]
        · obtain ⟨o, ho⟩ : ∃ o, o = rpI1_o c bk (some ⟨ab, ao, none⟩) on oc i g m co es z ν j := ⟨_, rfl⟩
          rw [← ho] at hfr7 hr7
          have e1 : o.2.1 = rpL c bk (some ⟨ab, ao, none⟩) on oc i (some ⟨g, 0, none⟩) m co (z + 1) := by rw [ho]; simp only [rpI1_o, hwz]; rfl
          have e2 : o.2.2.news = [] := by rw [ho]; rfl
          have e3 : o.2.2.blocks = [] := by rw [ho]; rfl
          have e4 : o.2.2.vecs = [u64sV (some ⟨g, 0, none⟩) m co ((es.set z 7).map u64V)] := by rw [ho]; simp only [rpI1_o, isK_u64, valI_u64, set_u64, map_valU, all_u64, isK_i64, valI_i64, set_i64, isK_bool, valB_bool, set_bool, sadd_eq, smul_eq, Nat.mul_one, Nat.zero_add, Nat.add_zero, List.length_map, Int.toNat_natCast]; rfl
          rw [e1] at hfr7
          rw [e2, e3, e4] at hr7
          exact hZ _ a7 w7 (by omega) ⟨z + 1, _, rfl, hzl, by simpa using he6, hfr7, hr7⟩
      · refine Res.segV (F := []) (V := []) hostL _ (rpJ c bk (some ⟨ab, ao, none⟩) on oc i so m co z) rpJ1_n (rpJ1_1 c bk (some ⟨ab, ao, none⟩) on oc i so m co z) (rpJ1_2 c bk (some ⟨ab, ao, none⟩) on oc i so m co z) (hr6) (Looks.nil W) no_old no_ros rfl ?_ (fun _ _ => rfl) (fun _ _ => rfl) hfr6 fun ν j a7 w7 hfr7 hr7 => ?_
        · simp [rpJ1_o]; omega
        · simp only [rpJ1_o, hwi] at hfr7
          show Z 8 a7 w7
          rw [hYZ 8 (by decide)]
          exact hY _ a7 w7 (show on - (i + 1) < on - i by omega) ⟨i + 1, gb, gc, xs, rfl, hlt, hfr7, u64sV so m co (es.map u64V) :: G, hr7.perm (by simp [rpJ1_o]) (by
            simp only [rpJ1_o, List.nil_append]
            exact (List.perm_middle (l₁ := [wordsV ws n n n (xs.map u64V), u64S gb n gc xs]) (l₂ := G)).symm)⟩
    have hm96' : Rg.bad w t 0 = false → Rg.many (t / w) n ≤ 4096 := fun h => by
      simp only [Rg.bad, Bool.or_eq_false_iff, decide_eq_false_iff_not] at h
      have := many_le (n := n) (Rg.div_nonneg (t := t) (w := w) (by omega) hw) hn0
      omega
    by_cases hk1 : k = 1
    · subst hk1
      by_cases hwhy : Rg.why n w xs t N = 0
      · have hb := good0 hN hwhy
        have hm96 := hm96' hb
        refine Res.segV (V := [wordsV ws n n n (xs.map u64V), u64S gb n gc xs]) hostLW _ (rpR1a c cb ws n bk gb gc w ab ao on oc xs i t N) rpR1_n (rpR1_1 c cb ws n bk gb gc w ab ao on oc xs i t N) (rpR1_2 c cb ws n bk gb gc w ab ao on oc xs i t N) (hr3) (hro) no_old no_ros rfl ?_ (fun _ _ => rfl) (fun _ _ => rfl) hfr3 fun ν j a4 w4 hfr4 hr4 => ?_
        · simp only [rpR1_o, all_u64, map_valU, rowNow]
          simp [hi', hlt, hbk, hsu, hri, htn, hN, hwhy, hb]
          try omega
        · obtain ⟨o, ho⟩ : ∃ o, o = rpR1_o c cb ws n bk gb gc w ab ao on oc xs i t N ν j := ⟨_, rfl⟩
          have e0 : o.1 = .loop (cutAt Tryd.f3 22).1 (cutAt Tryd.f3 22).2 := by rw [ho]; rfl
          rw [← ho] at hfr4 hr4
          rw [← ho, e0]
          obtain ⟨gb', gc', g, co, g2, co2, q1, q2, q3, q4⟩ : ∃ gb' gc' g co g2 co2, o.2.2.vecs = [wordsV ws n n n ((Rg.put1 n w xs t N).map u64V), u64S gb n gc xs, u64S gb' n gc' (Rg.put1 n w xs t N), u64sV (some ⟨g, 0, none⟩) (Rg.many (t / w) n) co ((Rg.sumR n w t (Rg.put1 n w xs t N)).map u64V), u64sV (some ⟨g2, 0, none⟩) (Rg.many (t / w) n) co2 ((Rg.sumR n w t (Rg.put1 n w xs t N)).map u64V)] ∧ o.2.1 = rpL c bk (some ⟨ab, ao, none⟩) on oc i (some ⟨g, 0, none⟩) (Rg.many (t / w) n) co 0 ∧ o.2.2.news = [] ∧ o.2.2.blocks = ringB c cb ws n w ++ bookB bk gb' n gc' w := by
            rw [ho]
            simp only [rpR1_o, map_valU, rowNow]
            exact ⟨_, _, _, _, _, _, rfl, rfl, trivial, rfl⟩
          rw [q2] at hfr4
          rw [q1, q3, q4] at hr4
          exact inner gb' gc' _ _ _ _ _ _ a4 w4 hm96 (by simp [Rg.sumR, Rg.slots]) (fun _ => ⟨_, rfl⟩) hfr4 (hr4.perm (by simp) (p1 ..))
      · have hput : Rg.put1 n w xs t N = xs := by simp [Rg.put1, hwhy]
        cases hb : Rg.bad w t 0 with
        | true =>
          refine Res.segV (V := [wordsV ws n n n (xs.map u64V), u64S gb n gc xs]) hostL _ (rpR1a c cb ws n bk gb gc w ab ao on oc xs i t N) rpR2_n (rpR2_1 c cb ws n bk gb gc w ab ao on oc xs i t N) (rpR2_2 c cb ws n bk gb gc w ab ao on oc xs i t N) (hr3) (hro) no_old no_ros rfl ?_ (fun _ _ => rfl) (fun _ _ => rfl) hfr3 fun ν j a4 w4 hfr4 hr4 => ?_
          · simp only [rpR2_o, all_u64, map_valU, rowNow]
            simp [hi', hlt, hbk, hsu, hri, htn, hN, hwhy, hb]
            try omega
          · obtain ⟨o, ho⟩ : ∃ o, o = rpR2_o c cb ws n bk gb gc w ab ao on oc xs i t N ν j := ⟨_, rfl⟩
            have e0 : o.1 = .loop (cutAt Tryd.f3 22).1 (cutAt Tryd.f3 22).2 := by rw [ho]; rfl
            rw [← ho] at hfr4 hr4
            rw [← ho, e0]
            obtain ⟨q1, q2, q3, q4⟩ : o.2.2.vecs = [wordsV ws n n n (xs.map u64V), u64S gb n gc xs] ∧ o.2.1 = rpL c bk (some ⟨ab, ao, none⟩) on oc i none 0 0 0 ∧ o.2.2.news = [] ∧ o.2.2.blocks = ringB c cb ws n w ++ bookB bk gb n gc w := by
              rw [ho]
              simp only [rpR2_o, map_valU, rowNow, hput]
              exact ⟨rfl, rfl, trivial, rfl⟩
            rw [q2] at hfr4
            rw [q1, q3, q4] at hr4
            exact inner gb gc xs [] none 0 0 G a4 w4 (by omega) rfl (fun h => absurd h (by omega)) hfr4 (res_nil (hr4.perm (by simp) (.refl _)) _ _)
        | false =>
          have hm96 := hm96' hb
          refine Res.segV (V := [wordsV ws n n n (xs.map u64V), u64S gb n gc xs]) hostLW _ (rpR1a c cb ws n bk gb gc w ab ao on oc xs i t N) rpR3_n (rpR3_1 c cb ws n bk gb gc w ab ao on oc xs i t N) (rpR3_2 c cb ws n bk gb gc w ab ao on oc xs i t N) (hr3) (hro) no_old no_ros rfl ?_ (fun _ _ => rfl) (fun _ _ => rfl) hfr3 fun ν j a4 w4 hfr4 hr4 => ?_
          · simp only [rpR3_o, all_u64, map_valU, rowNow]
            simp [hi', hlt, hbk, hsu, hri, htn, hN, hwhy, hb, hput]
            try omega
          · obtain ⟨o, ho⟩ : ∃ o, o = rpR3_o c cb ws n bk gb gc w ab ao on oc xs i t N ν j := ⟨_, rfl⟩
            have e0 : o.1 = .loop (cutAt Tryd.f3 22).1 (cutAt Tryd.f3 22).2 := by rw [ho]; rfl
            rw [← ho] at hfr4 hr4
            rw [← ho, e0]
            obtain ⟨g, co, g2, co2, q1, q2, q3, q4⟩ : ∃ g co g2 co2, o.2.2.vecs = [wordsV ws n n n (xs.map u64V), u64S gb n gc xs, u64sV (some ⟨g, 0, none⟩) (Rg.many (t / w) n) co ((Rg.sumR n w t xs).map u64V), u64sV (some ⟨g2, 0, none⟩) (Rg.many (t / w) n) co2 ((Rg.sumR n w t xs).map u64V)] ∧ o.2.1 = rpL c bk (some ⟨ab, ao, none⟩) on oc i (some ⟨g, 0, none⟩) (Rg.many (t / w) n) co 0 ∧ o.2.2.news = [] ∧ o.2.2.blocks = ringB c cb ws n w ++ bookB bk gb n gc w := by
              rw [ho]
              simp only [rpR3_o, map_valU, rowNow, hput]
              exact ⟨_, _, _, _, rfl, rfl, trivial, rfl⟩
            rw [q2] at hfr4
            rw [q1, q3, q4] at hr4
            exact inner gb gc _ _ _ _ _ _ a4 w4 hm96 (by simp [Rg.sumR, Rg.slots]) (fun _ => ⟨_, rfl⟩) hfr4 (hr4.perm (by simp) (p2 ..))
    · cases hb : Rg.bad w t 0 with
      | true =>
        refine Res.segV (V := [wordsV ws n n n (xs.map u64V), u64S gb n gc xs]) hostL _ (rpR c cb ws n bk gb gc w ab ao on oc xs i k t N) rpR5_n (rpR5_1 c cb ws n bk gb gc w ab ao on oc xs i k t N) (rpR5_2 c cb ws n bk gb gc w ab ao on oc xs i k t N) (hr3) (hro) no_old no_ros rfl ?_ (fun _ _ => rfl) (fun _ _ => rfl) hfr3 fun ν j a4 w4 hfr4 hr4 => ?_
        · simp only [rpR5_o, all_u64, map_valU, rowNow]
          simp [hi', hlt, hbk, hsu, hri, htn, hN, hk1, hb]
          try omega
        · obtain ⟨o, ho⟩ : ∃ o, o = rpR5_o c cb ws n bk gb gc w ab ao on oc xs i k t N ν j := ⟨_, rfl⟩
          have e0 : o.1 = .loop (cutAt Tryd.f3 22).1 (cutAt Tryd.f3 22).2 := by rw [ho]; rfl
          rw [← ho] at hfr4 hr4
          rw [← ho, e0]
          obtain ⟨q1, q2, q3, q4⟩ : o.2.2.vecs = [wordsV ws n n n (xs.map u64V), u64S gb n gc xs] ∧ o.2.1 = rpL c bk (some ⟨ab, ao, none⟩) on oc i none 0 0 0 ∧ o.2.2.news = [] ∧ o.2.2.blocks = ringB c cb ws n w ++ bookB bk gb n gc w := by
            rw [ho]
            simp only [rpR5_o, map_valU, rowNow]
            exact ⟨rfl, rfl, trivial, rfl⟩
          rw [q2] at hfr4
          rw [q1, q3, q4] at hr4
          exact inner gb gc xs [] none 0 0 G a4 w4 (by omega) rfl (fun h => absurd h (by omega)) hfr4 (res_nil (hr4.perm (by simp) (.refl _)) _ _)
      | false =>
        have hm96 := hm96' hb
        refine Res.segV (V := [wordsV ws n n n (xs.map u64V), u64S gb n gc xs]) hostLW _ (rpR c cb ws n bk gb gc w ab ao on oc xs i k t N) rpR4_n (rpR4_1 c cb ws n bk gb gc w ab ao on oc xs i k t N) (rpR4_2 c cb ws n bk gb gc w ab ao on oc xs i k t N) (hr3) (hro) no_old no_ros rfl ?_ (fun _ _ => rfl) (fun _ _ => rfl) hfr3 fun ν j a4 w4 hfr4 hr4 => ?_
        · simp only [rpR4_o, all_u64, map_valU, rowNow]
          simp [hi', hlt, hbk, hsu, hri, htn, hN, hk1, hb]
          try omega
        · obtain ⟨o, ho⟩ : ∃ o, o = rpR4_o c cb ws n bk gb gc w ab ao on oc xs i k t N ν j := ⟨_, rfl⟩
          have e0 : o.1 = .loop (cutAt Tryd.f3 22).1 (cutAt Tryd.f3 22).2 := by rw [ho]; rfl
          rw [← ho] at hfr4 hr4
          rw [← ho, e0]
          obtain ⟨g, co, g2, co2, q1, q2, q3, q4⟩ : ∃ g co g2 co2, o.2.2.vecs = [wordsV ws n n n (xs.map u64V), u64S gb n gc xs, u64sV (some ⟨g, 0, none⟩) (Rg.many (t / w) n) co ((Rg.sumR n w t xs).map u64V), u64sV (some ⟨g2, 0, none⟩) (Rg.many (t / w) n) co2 ((Rg.sumR n w t xs).map u64V)] ∧ o.2.1 = rpL c bk (some ⟨ab, ao, none⟩) on oc i (some ⟨g, 0, none⟩) (Rg.many (t / w) n) co 0 ∧ o.2.2.news = [] ∧ o.2.2.blocks = ringB c cb ws n w ++ bookB bk gb n gc w := by
            rw [ho]
            simp only [rpR4_o, map_valU, rowNow]
            exact ⟨_, _, _, _, rfl, rfl, trivial, rfl⟩
          rw [q2] at hfr4
          rw [q1, q3, q4] at hr4
          exact inner gb gc _ _ _ _ _ _ a4 w4 hm96 (by simp [Rg.sumR, Rg.slots]) (fun _ => ⟨_, rfl⟩) hfr4 (hr4.perm (by simp) (p2 ..))
  have hd : ¬ (i : Int) < on := by omega
  have hd2 : on ≤ i := by omega
  refine Res.segV (F := []) (V := []) hostL _ (rpX c bk oa on oc i) rpX1_n (rpX1_1 c bk oa on oc i) (rpX1_2 c bk oa on oc i) (hr3) (Looks.nil W) no_old no_ros rfl ?_ (fun _ _ => rfl) (fun _ _ => rfl) hfr3 fun ν j a4 w4 hfr4 hr4 => ?_
  · simp [rpX1_o, hd2]
  · exact ⟨rfl, res_old hr4⟩
end Go.Proofs.YthmhdiipejgkiaaDoor.rplain
