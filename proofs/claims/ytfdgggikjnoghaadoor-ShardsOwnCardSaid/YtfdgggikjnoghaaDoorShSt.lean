/- Operations of sharded counters begun by the statements' own 'started'. -/
import Derived.Test.YtfdgggikjnoghaaDoorShStB
namespace Go.Proofs.YtfdgggikjnoghaaDoor.shst
open Go Sy Close
set_option maxRecDepth 100000
open Sk (RU RGood)
/-- The objects of an operation under way. -/
def fB (c n : Nat) (r : RU) (q : Nat × Nat × Nat) : Bks := pendB c r.k r.w r.b (Sk.akOf r.k) (Sk.abOf r.k r.b) (Sk.cellOf n r.k r.w + r.at_) (Sk.lastOf n r.k r.w) r.sum (Sk.ended n r) q.1 q.2.1 q.2.2
def pV (q : Nat × Nat × Nat) : Value := ptrV q.1
def oRow (r : RU) : List Value := [.int .u8 r.k, .int .i64 r.w, .int .u64 r.b]
theorem oRow_len (r : RU) : (oRow r).length = 3 := rfl
theorem many_pos' {n : Nat} {k : Int} (hn : 0 < n) (hm : n ≤ 64) : 1 ≤ manyOf n k ∧ manyOf n k ≤ 65536 := Sk.many_pos hn (by omega)
structure S1 (W : World) (c cb ws n : Nat) (GF : Bks) (V : List Vec) (us : List RU) (qs : List (Nat × Nat × Nat)) (sp so : Option Addr) (m cp co : Nat) (w : World) : Prop where
  res : Res W NoOld (cntB c cb ws n ++ (famB (fB c n) us qs ++ GF)) [] ([ptrs sp m cp (qs.map pV), opsV so m co (us.flatMap oRow)] ++ V) w
  lu : us.length = m
  lq : qs.length = m
  good : ∀ r ∈ us, RGood n r ∧ r.at_ = 0 ∧ r.sum = 0
theorem body : Tryd.f12.body = some (codeOf Tryd.f12) := by kernel_rfl
theorem ntmps : 2 ≤ Tryd.f12.ntmps := by decide +kernel
theorem started {W w : World} {c cb ws n : Nat} {GF : Bks} {V : List Vec} {oa : Option Addr} {on oc : Nat} {l : List shop.Op} (hl : l.length = on) (hcap : on ≤ oc) (hmax : oc ≤ maxLen) (hel : ∀ i y, l[i]? = some y → Elem W oa 3 i y.row) (hb : on ≤ 1048576)
    (hn0 : 0 < n) (hn1 : n ≤ 64) (h : Res W NoOld (cntB c cb ws n ++ GF) [] V w) :
    Calls Tryd.prog 12 #[ptrV c, .slice oa on oc] w fun e w' => ∃ us qs sp so m cp co, e = .returned (.tuple #[.slice sp m cp, .slice so m co]) ∧ m ≤ on ∧ S1 W c cb ws n GF V us qs sp so m cp co w' := by
  refine calls_after (X := fun _ _ _ => False) Tryd.func12 body ntmps fun a1 ha => ?_
  refine Res.segV (F := []) (V := []) host5 _ (sttA c oa on oc) sttA1_n (sttA1_1 c oa on oc) (sttA1_2 c oa on oc) (h) (Looks.nil W) no_old no_ros rfl ?_ (fun _ _ => rfl) (fun _ _ => rfl) ha fun ν j a2 w2 hfr2 hr2 => ?_
  · simp [sttA1_o]
  have hI : S1 W c cb ws n GF V [] [] none none 0 0 0 w2 := ⟨res_nil (res_nil hr2 _ _) _ _, rfl, rfl, by simp⟩
  refine loop_after (i := 4) (by kernel_rfl) (fun d a w => ∃ (i : Nat) (us : List RU) (qs : List (Nat × Nat × Nat)) (sp so : Option Addr) (m cp co : Nat), d = on - i ∧ i ≤ on ∧ m ≤ i ∧ Fr Tryd.f12.ntmps (sttK c oa on oc sp so m cp co i) a ∧ S1 W c cb ws n GF V us qs sp so m cp co w) on ⟨0, [], [], none, none, 0, 0, 0, rfl, Nat.zero_le _, Nat.le_refl _, hfr2, hI⟩ ?_
  rintro d a3 w3 ⟨i, us, qs, sp, so, m, cp, co, rfl, hi, hmi, hfr3, hI3⟩ Y hY _
  by_cases hlt : i < on
  · obtain ⟨⟨k, wk, b⟩, hy⟩ : ∃ y, l[i]? = some y := ⟨_, List.getElem?_eq_getElem (by omega)⟩
    have he := hel i _ hy
    obtain ⟨ab, ao, rfl, _⟩ := hel i _ hy
    have hro := ro_elem' he (opsK k wk b) (by simp [opsK, shop.Op.row]) (by simp [opsK])
    have hw := wrap_next hlt hcap hmax
    cases hr : Sk.right k wk b with
    | true =>
      refine Res.segV  host5 _ (sttR c cb ws n ab ao on oc sp so m cp co (qs.map pV) (us.flatMap oRow) i k wk b) sttR1_n (sttR1_1 c cb ws n ab ao on oc sp so m cp co (qs.map pV) (us.flatMap oRow) i k wk b) (sttR1_2 c cb ws n ab ao on oc sp so m cp co (qs.map pV) (us.flatMap oRow) i k wk b) (hI3.res) (hro) no_old no_ros rfl ?_ (fun _ _ => rfl) (fun _ _ => rfl) hfr3 fun ν j a4 w4 hfr4 hr4 => ?_
      · simp [sttR1_o, hr, hlt, hn0, ptrs, opsV, addV_eq, maxLen]; omega
      · obtain ⟨o, ho⟩ : ∃ o, o = sttR1_o c cb ws n ab ao on oc sp so m cp co (qs.map pV) (us.flatMap oRow) i k wk b ν j := ⟨_, rfl⟩
        rw [← ho] at hfr4 hr4
        obtain ⟨p, kb, bb, gp, cp', go, co', e1, e2, e3⟩ : ∃ p kb bb gp cp' go co', o.2.1 = sttK c (some ⟨ab, ao, none⟩) on oc (some ⟨gp, 0, none⟩) (some ⟨go, 0, none⟩) (m + 1) cp' co' (i + 1) ∧
            o.2.2.news = pendB c k wk b (Sk.akOf k) (Sk.abOf k b) (Sk.cellOf n k wk) (Sk.lastOf n k wk) 0 false p kb bb ∧ o.2.2.vecs = [ptrs (some ⟨gp, 0, none⟩) (m + 1) cp' (qs.map pV ++ [ptrV p]), opsV (some ⟨go, 0, none⟩) (m + 1) co' (us.flatMap oRow ++ [.int .u8 k, .int .i64 wk, .int .u64 b])] := by
          rw [ho]
          simp only [sttR1_o, hw, addV_eq]
          exact ⟨_, _, _, _, _, _, _, rfl, rfl, rfl⟩
        have e4 : o.2.2.blocks = cntB c cb ws n := by rw [ho]; rfl
        rw [e1] at hfr4
        have hg0 : RGood n ⟨k, wk, b, 0, 0⟩ := ⟨hr, Int.le_refl _, by have := (many_pos' hn0 hn1 (k := k)).1; simp only; omega⟩
        have hfb : pendB c k wk b (Sk.akOf k) (Sk.abOf k b) (Sk.cellOf n k wk) (Sk.lastOf n k wk) 0 false p kb bb = fB c n ⟨k, wk, b, 0, 0⟩ (p, kb, bb) := by
          have : Sk.ended n ⟨k, wk, b, 0, 0⟩ = false := by
            have := (many_pos' hn0 hn1 (k := k)).1
            simp only [Sk.ended, decide_eq_false_iff_not]; omega
          simp only [fB, this, Int.add_zero]
        rw [e2, e3, e4, hfb] at hr4
        refine hY (on - (i + 1)) a4 w4 (by omega) ⟨i + 1, us ++ [⟨k, wk, b, 0, 0⟩], qs ++ [(p, kb, bb)], _, _, m + 1, cp', co', rfl, hlt, by omega, hfr4, ⟨?_, by simp [hI3.lu], by simp [hI3.lq], fun r hm => ?_⟩⟩
        · rw [famB_push (by rw [hI3.lu, hI3.lq])]
          simp only [List.flatMap_append, List.map_append]
          refine hr4.perm ((perm3 _ _ _).trans (perm_in ?_)) (.refl _)
          rw [List.append_assoc, List.append_assoc]
          exact perm_in List.perm_append_comm
        · rcases List.mem_append.1 hm with hm | hm
          · exact hI3.good r hm
          · rw [List.mem_singleton.1 hm]; exact ⟨hg0, rfl, rfl⟩
    | false =>
      refine Res.segV  host5 _ (sttR c cb ws n ab ao on oc sp so m cp co (qs.map pV) (us.flatMap oRow) i k wk b) sttR2_n (sttR2_1 c cb ws n ab ao on oc sp so m cp co (qs.map pV) (us.flatMap oRow) i k wk b) (sttR2_2 c cb ws n ab ao on oc sp so m cp co (qs.map pV) (us.flatMap oRow) i k wk b) (hI3.res) (hro) no_old no_ros rfl ?_ (fun _ _ => rfl) (fun _ _ => rfl) hfr3 fun ν j a4 w4 hfr4 hr4 => ?_
      · simp [sttR2_o, hr, hlt, hn0]
      · simp only [sttR2_o, hw] at hfr4
        exact hY (on - (i + 1)) a4 w4 (by omega) ⟨i + 1, us, qs, sp, so, m, cp, co, rfl, hlt, by omega, hfr4, hr4, hI3.lu, hI3.lq, hI3.good⟩
  · have hd : ¬ (i : Int) < on := by omega
    refine Res.segV (F := []) (V := []) host5 _ (sttX c oa on oc sp so m cp co i) sttX1_n (sttX1_1 c oa on oc sp so m cp co i) (sttX1_2 c oa on oc sp so m cp co i) (hI3.res) (Looks.nil W) no_old no_ros rfl ?_ (fun _ _ => rfl) (fun _ _ => rfl) hfr3 fun ν j a4 w4 hfr4 hr4 => ?_
    · simp [sttX1_o, hd]
    · exact ⟨us, qs, sp, so, m, cp, co, rfl, by omega, hr4, hI3.lu, hI3.lq, hI3.good⟩
end Go.Proofs.YtfdgggikjnoghaaDoor.shst
