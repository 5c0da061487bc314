/- Registers: 'under' of the statements: operations begun. -/
import Derived.Test.YtmihblocomnfjaaDoorSnUB
set_option linter.unusedSimpArgs false
set_option linter.unusedVariables false
namespace Go.Proofs.YtmihblocomnfjaaDoor.snu
open Go Sy Close
set_option maxRecDepth 100000
open Sn (regR SD SP nxt did wd num vl)
open snst (blk vcs swp pD)
section
variable {H : Type} {enc : TypeId × Value → H} {P : Program} {w : World}
theorem field_int {t : TypeId} {fs : Array Field} {n : Nat} {cs : List Value} {x : DataW H × List MemPlace} (ht : P.underlying t = some (.struct fs)) (h : DataW.trod enc P w 0 (fun _ => true) true n t cs = some x) {i : Nat} {f : Field} (hf : fs[i]? = some f) {k : IntKind} (hu : P.underlying f.type = some (.int k)) (hc : P.cellsOf f.type = 1) :
    ∃ z, cs[f.offset]? = some (.int k z) ∧ (Lit.int k z).wf = true := by
  obtain ⟨m, y, hy⟩ := field_cell ht h hf
  obtain ⟨z, hz, _, hw⟩ := DataW.trod_int hu hy
  rw [hc] at hz
  refine ⟨z, ?_, hw⟩
  have := congrArg (fun l => l[0]?) hz
  simpa [List.getElem?_take, List.getElem?_drop] using this
theorem int_cell' {t : TypeId} {n : Nat} {cs : List Value} {x : DataW H × List MemPlace} (h : DataW.trod enc P w 0 (fun _ => true) true n t cs = some x) (i off : Nat) (k : IntKind) (hB : intField P t i off k = true) : ∃ z, cs[off]? = some (.int k z) ∧ (Lit.int k z).wf = true := by
  unfold intField at hB
  split at hB
  · rename_i fs ht
    split at hB
    · rename_i f hf
      split at hB
      · rename_i k' hu
        simp only [Bool.and_eq_true, decide_eq_true_eq] at hB
        obtain ⟨⟨rfl, rfl⟩, hc⟩ := hB
        exact field_int ht h hf hu hc
      · cases hB
    · cases hB
  · cases hB
end
/-- An operation that was handed in, with its value's range. -/
structure Op where
  k : Int
  r : Int
  v : Int
  t : Int
  hv : 0 ≤ v ∧ v < 4294967296
def Op.row (x : Op) : List Value := [.int .u8 x.k, .int .i64 x.r, .int .u32 x.v, .int .i64 x.t]
theorem wf_v {z : Int} (h : (Lit.int .u32 z).wf = true) : 0 ≤ z ∧ z < 4294967296 := by
  simp [Lit.wf, IntKind.has, IntKind.max, IntKind.min, IntKind.signed, IntKind.bits] at h
  omega
theorem op_rows {H : Type} {enc : TypeId × Value → H} {W : World} : ∀ n cs (x : DataW H × List MemPlace), cs.length = 4 → DataW.trod enc Tryd.prog W 0 (fun _ => true) true n 37 cs = some x → ∃ y : Op, cs = y.row := by
  intro n cs x hl h
  obtain ⟨k, h0, _⟩ := int_cell' h 0 0 .u8 (by kernel_rfl)
  obtain ⟨a, h1, _⟩ := int_cell' h 1 1 .i64 (by kernel_rfl)
  obtain ⟨b, h2, w2⟩ := int_cell' h 2 2 .u32 (by kernel_rfl)
  obtain ⟨c, h3, _⟩ := int_cell' h 3 3 .i64 (by kernel_rfl)
  match cs, hl with
  | [c0, c1, c2, c3], _ =>
    simp only [List.getElem?_cons_zero, List.getElem?_cons_succ, Option.some.injEq] at h0 h1 h2 h3
    exact ⟨⟨k, a, b, c, wf_v w2⟩, by rw [h0, h1, h2, h3]; rfl⟩
def pV (u : SP) : Value := ptrV u.p
def oRow (d : SD) : List Value := [.int .u8 d.k, .int .i64 d.r, .int .u32 d.v, .int .i64 d.tr]
theorem oRow_len (d : SD) : (oRow d).length = 4 := rfl
/-- Ahead of its first action. -/
def new (k r v t : Int) : SD := ⟨k, r, v, t, false, 0, [], [], false, [], false, 0⟩
def fresh (p : Nat) (d : SD) : SP := ⟨d, p, none, 0, none, 0, none, 0⟩
structure Begun (n : Nat) (u : SP) : Prop where
  good : Sn.Good n u
  new : u.d = new u.d.k u.d.r u.d.v u.d.tr
  rng : 0 ≤ u.d.v ∧ u.d.v < 4294967296
theorem begun {n : Nat} (hn : 0 < n) {p : Nat} {k r v t : Int} (h : Sn.right k r v t n = true) (hv : 0 ≤ v ∧ v < 4294967296) : Begun n (fresh p (new k r v t)) := by
  refine ⟨⟨h, rfl, rfl, hn, fun _ => ⟨rfl, rfl, rfl, rfl, rfl, rfl, rfl, rfl, rfl, rfl⟩, fun _ => rfl, fun hk => ?_⟩, rfl, hv⟩
  have hk : k = 3 := hk
  subst hk
  simp [Sn.right] at h
  exact ⟨Int.le_refl _, by show (0 : Int) < t; omega, .inl ⟨rfl, rfl, rfl, rfl⟩⟩
/-- The operations' memory. -/
structure Und (W : World) (c cb ws n : Nat) (F : Bks) (V : List Vec) (us : List SP) (sp so : Option Addr) (m cp co : Nat) (w : World) : Prop where
  res : Res W NoOld (snB c cb ws n ++ (us.flatMap (blk c) ++ F)) [] ([sptrs sp m cp (us.map pV), sopsV so m co (us.flatMap fun u => oRow u.d)] ++ (us.flatMap vcs ++ V)) w
  lu : us.length = m
  ok : ∀ u ∈ us, Begun n u
theorem body : Tryd.f22.body = some (codeOf Tryd.f22) := by kernel_rfl
theorem ntmps : 2 ≤ Tryd.f22.ntmps := by decide +kernel
set_option maxHeartbeats 2000000 in
theorem under {W w : World} {c cb ws n : Nat} {F : Bks} {V : List Vec} {oa : Option Addr} {on oc : Nat} {l : List Op} (hl : l.length = on) (hcap : on ≤ oc) (hmax : oc ≤ maxLen) (hel : ∀ i y, l[i]? = some y → Elem W oa 4 i y.row) (hb : on ≤ 1048576)
    (hn0 : 0 < n) (h : Res W NoOld (snB c cb ws n ++ F) [] V w) :
    Calls Tryd.prog 22 #[ptrV c, .slice oa on oc] w fun e w' => ∃ us sp so m cp co, e = .returned (.tuple #[.slice sp m cp, .slice so m co]) ∧ m ≤ on ∧ Und W c cb ws n F V us sp so m cp co w' := by
  refine calls_after (X := fun _ _ _ => False) Tryd.func22 body ntmps fun a1 ha => ?_
  refine Res.segV (F := []) (V := []) hostU _ (unA c oa on oc) unA1_n (unA1_1 c oa on oc) (unA1_2 c oa on oc) (h) (Looks.nil W) no_old no_ros rfl ?_ (fun _ _ => rfl) (fun _ _ => rfl) ha fun ν j a2 w2 hfr2 hr2 => ?_
  · simp [unA1_o]
  have hI : Und W c cb ws n F V [] none none 0 0 0 w2 := ⟨res_nil (res_nil hr2 _ _) _ _, rfl, by simp⟩
  refine loop_after (i := 4) (by kernel_rfl) (fun d a w => ∃ (i : Nat) (us : List SP) (sp so : Option Addr) (m cp co : Nat), d = on - i ∧ i ≤ on ∧ m ≤ i ∧ Fr Tryd.f22.ntmps (unK c oa on oc sp so m cp co i) a ∧ Und W c cb ws n F V us sp so m cp co w) on ⟨0, [], none, none, 0, 0, 0, rfl, Nat.zero_le _, Nat.le_refl _, hfr2, hI⟩ ?_
  clear hI hr2 hfr2
  rintro d a3 w3 ⟨i, us, sp, so, m, cp, co, rfl, hi, hmi, hfr3, hI3⟩ Y hY _
  by_cases hlt : i < on
  · obtain ⟨⟨k, r, v, t, hv⟩, hy⟩ : ∃ y, l[i]? = some y := ⟨_, List.getElem?_eq_getElem (by omega)⟩
    have he := hel i _ hy
    obtain ⟨ab, ao, rfl, _⟩ := hel i _ hy
    have hro := ro_elem' he (sopK k r v t) (by simp [sopK, Op.row]) (by simp [sopK])
    have hw := wrap_next hlt hcap hmax
    obtain ⟨PS, hPS⟩ : ∃ PS, PS = us.map pV := ⟨_, rfl⟩
    obtain ⟨OS, hOS⟩ : ∃ OS, OS = us.flatMap fun u => oRow u.d := ⟨_, rfl⟩
    obtain ⟨FF, hFF⟩ : ∃ FF, FF = us.flatMap (blk c) ++ F := ⟨_, rfl⟩
    obtain ⟨VV, hVV⟩ : ∃ VV, VV = us.flatMap vcs ++ V := ⟨_, rfl⟩
    have hR := hI3.res
    rw [← hPS, ← hOS, ← hFF, ← hVV] at hR
    cases hr : Sn.right k r v t n with
    | true =>
      refine Res.segV (F := snB c cb ws n) (V := [sptrs sp m cp PS, sopsV so m co OS]) hostU _ (unR c cb ws n ab ao on oc sp so m cp co PS OS i k r v t) unR1_n (unR1_1 c cb ws n ab ao on oc sp so m cp co PS OS i k r v t) (unR1_2 c cb ws n ab ao on oc sp so m cp co PS OS i k r v t) (hR) (hro) no_old no_ros rfl ?_ (fun _ _ => rfl) (fun _ _ => rfl) hfr3 fun ν j a4 w4 hfr4 hr4 => ?_
      · simp [unR1_o, hr, hlt, sptrs, sopsV, addV_eq, maxLen]; omega
      · obtain ⟨o, ho⟩ : ∃ o, o = unR1_o c cb ws n ab ao on oc sp so m cp co PS OS i k r v t ν j := ⟨_, rfl⟩
        rw [← ho] at hfr4 hr4
        obtain ⟨p, gp, cp', go, co', e1, e2, e3⟩ : ∃ p gp cp' go co', o.2.1 = unK c (some ⟨ab, ao, none⟩) on oc (some ⟨gp, 0, none⟩) (some ⟨go, 0, none⟩) (m + 1) cp' co' (i + 1) ∧ o.2.2.news = blk c (fresh p (new k r v t)) ∧
            o.2.2.vecs = [sptrs (some ⟨gp, 0, none⟩) (m + 1) cp' (PS ++ [ptrV p]), sopsV (some ⟨go, 0, none⟩) (m + 1) co' (OS ++ [.int .u8 k, .int .i64 r, .int .u32 v, .int .i64 t])] := by
          rw [ho]
          simp only [unR1_o, hw, addV_eq]
          exact ⟨_, _, _, _, _, rfl, rfl, rfl⟩
        have e4 : o.2.2.blocks = snB c cb ws n := by rw [ho]; rfl
        rw [e1] at hfr4
        rw [e2, e3, e4, hFF, hVV, hPS, hOS] at hr4
        have hr5 := res_nil (res_nil (res_nil hr4 63 2) 39 1) 39 1
        refine hY (on - (i + 1)) a4 w4 (by omega) ⟨i + 1, us ++ [fresh p (new k r v t)], _, _, m + 1, cp', co', rfl, hlt, by omega, hfr4, ⟨?_, by simp [hI3.lu], fun u hm => ?_⟩⟩
        · simp only [List.flatMap_append, List.map_append]
          refine hr5.perm ?_ ?_
          · refine swp.trans (perm_in ?_)
            rw [List.append_assoc]
            exact swp.trans (perm_in (.of_eq (by simp)))
          · refine List.Perm.trans (?_ : List.Perm _ ([sptrs (some ⟨gp, 0, none⟩) (m + 1) cp' (us.map pV ++ [ptrV p]), sopsV (some ⟨go, 0, none⟩) (m + 1) co' ((us.flatMap fun u => oRow u.d) ++ [.int .u8 k, .int .i64 r, .int .u32 v, .int .i64 t])] ++ (vcs (fresh p (new k r v t)) ++ (us.flatMap vcs ++ V)))) (perm_in ?_)
            · rw [show vcs (fresh p (new k r v t)) = [⟨39, 1, .slice none 0 0, 0, []⟩, ⟨39, 1, .slice none 0 0, 0, []⟩, ⟨63, 2, .slice none 0 0, 0, []⟩] from rfl]
              exact swp (A := [⟨39, 1, .slice none 0 0, 0, []⟩, ⟨39, 1, .slice none 0 0, 0, []⟩, ⟨63, 2, .slice none 0 0, 0, []⟩]) (B := [sptrs (some ⟨gp, 0, none⟩) (m + 1) cp' (us.map pV ++ [ptrV p]), sopsV (some ⟨go, 0, none⟩) (m + 1) co' ((us.flatMap fun u => oRow u.d) ++ [.int .u8 k, .int .i64 r, .int .u32 v, .int .i64 t])]) (C := us.flatMap vcs ++ V)
            · rw [List.append_assoc]
              exact swp.trans (perm_in (.of_eq (by simp)))
        · rcases List.mem_append.1 hm with hm | hm
          · exact hI3.ok u hm
          · rw [List.mem_singleton.1 hm]; exact begun hn0 hr hv
    | false =>
      refine Res.segV (F := snB c cb ws n) (V := [sptrs sp m cp PS, sopsV so m co OS]) hostU _ (unR c cb ws n ab ao on oc sp so m cp co PS OS i k r v t) unR2_n (unR2_1 c cb ws n ab ao on oc sp so m cp co PS OS i k r v t) (unR2_2 c cb ws n ab ao on oc sp so m cp co PS OS i k r v t) (hR) (hro) no_old no_ros rfl ?_ (fun _ _ => rfl) (fun _ _ => rfl) hfr3 fun ν j a4 w4 hfr4 hr4 => ?_
      · simp [unR2_o, hr, hlt]
      · simp only [unR2_o, hw] at hfr4
        exact hY (on - (i + 1)) a4 w4 (by omega) ⟨i + 1, us, sp, so, m, cp, co, rfl, hlt, by omega, hfr4, (by rw [hFF, hVV, hPS, hOS] at hr4; exact hr4), hI3.lu, hI3.ok⟩
  · have hd : ¬ (i : Int) < on := by omega
    refine Res.segV (F := []) (V := []) hostU _ (unX c oa on oc sp so m cp co i) unX1_n (unX1_1 c oa on oc sp so m cp co i) (unX1_2 c oa on oc sp so m cp co i) (hI3.res) (Looks.nil W) no_old no_ros rfl ?_ (fun _ _ => rfl) (fun _ _ => rfl) hfr3 fun ν j a4 w4 hfr4 hr4 => ?_
    · simp [unX1_o, hd]
    · exact ⟨us, sp, so, m, cp, co, rfl, by omega, hr4, hI3.lu, hI3.ok⟩
/-- One of many, taken out; and put back. -/
theorem flat_focus {α β : Type} {f : α → List β} : ∀ {us : List α} {k : Nat} {u : α}, us[k]? = some u → (us.flatMap f).Perm (f u ++ (us.eraseIdx k).flatMap f)
  | a :: us, 0, u, h => by
    simp only [List.getElem?_cons_zero, Option.some.injEq] at h
    subst h
    exact .refl _
  | a :: us, k + 1, u, h => by
    simp only [List.getElem?_cons_succ] at h
    simp only [List.flatMap_cons, List.eraseIdx_cons_succ]
    exact ((flat_focus h).append_left (f a)).trans swp
  | [], k, u, h => by simp at h
theorem flat_set {α β : Type} {f : α → List β} {us : List α} {k : Nat} {u u' : α} (h : us[k]? = some u) : (f u' ++ (us.eraseIdx k).flatMap f).Perm ((us.set k u').flatMap f) := by
  have := (flat_focus (f := f) (us := us.set k u') (k := k) (u := u') (List.getElem?_set_self (List.getElem?_eq_some_iff.1 h).1)).symm
  rwa [List.eraseIdx_set_eq] at this
end Go.Proofs.YtmihblocomnfjaaDoor.snu
