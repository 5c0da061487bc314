/- TokensNil: a nil bucket and a nil operation answer as the document says, whatever the operation. -/
import Derived.Test.YthglajoihlaldaaDoorNil
namespace Go.Proofs.YthglajoihlaldaaDoor.nilRow
open Go Sy Go.ChangeShapes Go.WideShapes Go.ChangeAt Go.RowKit

theorem own : ownKnob Tryd.prog.godebug = none := by kernel_rfl
theorem laidOut : laidOutB Tryd.prog = true := by kernel_rfl
theorem mapsR : mapsRowed Tryd.prog = true := by kernel_rfl
theorem slicesF : ((List.range Tryd.prog.types.size).all fun t => match Tryd.prog.underlying t with | some (.slice e) => decide (0 < Tryd.prog.cellsOf e) | _ => true) = true := by kernel_rfl

set_option maxRecDepth 100000 in
/-- An operation that is handed in. -/
theorem open_op {W : World} {base : Nat} {v : Value} (h : Value.okWide Tryd.prog W .any base 34 v) : ∃ k a n, v = .agg #[.int .u8 k, .int .i64 a, .int .i64 n] := by
  unfold Value.okWide at h
  rw [Tryd.underlying34] at h
  obtain ⟨cs, rfl, hs, ts, hts, _, hc⟩ := h
  have c3 : Tryd.prog.cellsOf 34 = 3 := by kernel_rfl
  have t3 : Tryd.prog.cellTypes Tryd.prog.depth 34 = some [32, 2, 2] := by kernel_rfl
  rw [t3] at hts
  simp only [Option.some.injEq] at hts
  subst hts
  rw [c3] at hs
  have u0 : Tryd.prog.underlying 32 = some (.int .u8) := by kernel_rfl
  have u1 : Tryd.prog.underlying 2 = some (.int .i64) := by kernel_rfl
  have one : ∀ {u : TypeId} {kd : IntKind} {v : Value}, Tryd.prog.underlying u = some (.int kd) → Cell.okWide Tryd.prog W .any base u v → ∃ z, v = .int kd z := fun {u kd v} hu h => by
    unfold Cell.okWide at h
    rw [hu] at h
    cases v <;> simp only [Cell.ok, hu] at h
    exact ⟨_, by rw [h.1]⟩
  obtain ⟨l⟩ := cs
  match l, hs with
  | [a, b, c], _ =>
    obtain ⟨_, e0, h0⟩ := hc 0 a rfl
    obtain ⟨_, e1, h1⟩ := hc 1 b rfl
    obtain ⟨_, e2, h2⟩ := hc 2 c rfl
    simp at e0 e1 e2
    subst e0 e1 e2
    obtain ⟨x, rfl⟩ := one u0 h0
    obtain ⟨y, rfl⟩ := one u1 h1
    obtain ⟨z, rfl⟩ := one u1 h2
    exact ⟨x, y, z, rfl⟩

set_option maxRecDepth 100000 in
theorem contract (H : Type) (enc : TypeId × Value → H) (W : World) (base : Nat) (args : Array Value) (ds gs : List (DataW H)) (before : List MemPlace)
    (hval : ∀ (j : Nat) t v, Tryd.f7.params[j]? = some t → args[j]? = some v → Value.okWide Tryd.prog W .any base t v)
    (hW : DataW.Whole enc Tryd.prog Tryd.f7.params.toList Rows.tokensNilSpec.vars false W args.toList ds gs before) (hL : laidMetH Tryd.prog Rows.tokensNilRow.laid W) :
    Calls Tryd.prog 7 args W fun e W' => ∃ v, e = .returned v ∧ Rows.tokensNilSpec.post enc Tryd.prog Tryd.f7 false true false false W args v W' := by
  have hW' := hW
  obtain ⟨p, q, hA0, hV, rfl, hfz, hnd⟩ := hW
  have hA : DataW.TrodAll enc Tryd.prog W 0 (fun _ => true) true Tryd.f7.params.toList args.toList ds p := hA0
  rw [Tryd.params7] at hA hval
  obtain ⟨v0, vs0, d0, ds0, p0, q0, hargs, rfl, rfl, h0, r0⟩ := trodAll_cons hA
  obtain ⟨rfl, rfl, rfl⟩ := trodAll_nil r0
  obtain rfl : args = #[v0] := by cases args; simp_all
  obtain ⟨rfl, rfl⟩ := trodVars_none hV
  obtain ⟨k, a, n, rfl⟩ := open_op (hval 0 _ v0 rfl rfl)
  refine (nil_calls k a n (Close.uses_cells hL)).mono fun e W' ⟨he, hg⟩ => ?_
  subst he
  refine ⟨_, rfl, post_of_same (pa := p0 ++ []) (pv := []) hW' (fun _ _ _ => trodAll_cons_mk (shut_bool Tryd.underlying4 _) trodAll_mk0)
    (fun sp hsp => hg.trod (kids_rows laidOut mapsR) (slices_full_of _ slicesF) (by rw [Tryd.params7]; intro t ht; simp at ht; subst ht; exact (of_decide_eq_true (by kernel_rfl))) hA0 (by simpa using hsp)) (fun _ _ => rfl) (by simp) (hg.kept _) hg.frozen (ok_one (by kernel_rfl) rfl (okWide_bool_mk Tryd.underlying4 _))⟩

/-- A world for the witness. -/
noncomputable def laidWorld (os : Os) : World :=
  { World.holding Tryd.prog os ⟨#[], #[], []⟩ with heap := (World.holding Tryd.prog os ⟨#[], #[], []⟩).heap.modify 0 fun
      | .cells _ t frozen => .cells Close.usesList.toArray t frozen
      | o => o }
def wArgs : Array Value := #[.agg #[.int .u8 0, .int .i64 0, .int .i64 0]]
def wData {H : Type} : List (DataW H) := [.agg [.lit (.int .u8 0), .lit (.int .i64 0), .lit (.int .i64 0)]]
theorem laid_met (os : Os) : laidMet Tryd.prog Rows.tokensNilRow.laid ((laidWorld os).forCall (fun _ _ => 0) ⟨#[], wArgs, []⟩).memory :=
  laidMet_of_run' 8 (by kernel_rfl) (by kernel_rfl)
theorem reads (os : Os) {H : Type} (enc : TypeId × Value → H) : ∃ places, DataW.whole enc Tryd.prog ((laidWorld os).forCall (fun _ _ => 0) ⟨#[], wArgs, []⟩).memory Tryd.f7.params.toList Rows.tokensNilSpec.vars false wArgs.toList 8 = some (wData, [], places) :=
  ⟨[], by kernel_rfl⟩

set_option maxRecDepth 100000 in
theorem lifted (os : Os) (started : os.Started) (H : Type) (enc : TypeId × Value → H) (F : Stop.Interp) :
    ReturnsInHanded {} Tryd.checked os 7 .any ((OpenSpec.ofChange Rows.tokensNilSpec).preRow enc Tryd.prog Tryd.f7 Rows.tokensNilRow.domain false Rows.tokensNilRow.laid) (((OpenSpec.ofChange Rows.tokensNilSpec).at F).post enc Tryd.prog Tryd.f7 false true false false) := by
  obtain ⟨places, hx⟩ := reads os enc
  refine returnsInHanded_of_row (C := Tryd.checked) (s := OpenSpec.ofChange Rows.tokensNilSpec) own started (by kernel_rfl) Tryd.func7
    (witness_row_at (enc := enc) (C := Tryd.checked) false (laidWorld os) wArgs rfl (by kernel_rfl) (by kernel_rfl) (by kernel_rfl)
      (OpenSpec.preRow_of_cond 8 hx (by kernel_rfl) (fun k hk => by cases hk) (by kernel_rfl) (laid_met os))) ?_
  intro W base args ds gs before hval hW _ _ _ hL _ _
  exact contract H enc W base args ds gs before hval hW hL

theorem said : Rows.TokensNilSaid :=
  OpenClaim.holds_of_cond 7 Tryd.f7 rfl rfl rfl rfl rfl rfl rfl ⟨rfl, rfl, rfl, rfl, rfl⟩ rfl rfl rfl rfl rfl (by kernel_rfl) Tryd.func7 (by kernel_rfl)
    (of_decide_eq_true (by kernel_rfl)) (by unfold Func.isWrapper; first | (rw [if_pos (by decide +kernel)]; kernel_rfl) | (rw [if_neg (by decide +kernel)]; exact ⟨rfl, rfl⟩))
    (fun os started H enc _ F => by rw [OpenClaim.pre_eq_preRow]; exact lifted os started H enc F)

theorem plain (f : FuncId) (fn : Func) (hf : Tryd.pinned.checked.prog.funcNamed "abacus/abacuslaw06.TokensNil" = some f) (hfn : Tryd.pinned.checked.prog.funcs[f]? = some fn) :
    false = Tryd.pinned.checked.prog.looks [] ∧ ∀ (j : Nat) t, fn.params[j]? = some t → Tryd.pinned.checked.prog.wantsStandIn t = false := by
  obtain rfl : f = 7 := Option.some.inj ((show Tryd.prog.funcNamed "abacus/abacuslaw06.TokensNil" = some 7 by kernel_rfl).symm.trans hf) |>.symm
  obtain rfl : fn = Tryd.f7 := (Option.some.inj (Tryd.func7.symm.trans hfn)).symm
  refine ⟨by kernel_rfl, fun j t ht => ?_⟩
  rw [Tryd.params7] at ht
  obtain rfl : t = 34 := by simpa using Array.mem_of_getElem? ht
  exact (show Tryd.prog.wantsStandIn 34 = false by kernel_rfl)

theorem card : Rows.TokensNilCardSaid :=
  Claim7.holds_tied_plain_at .later [] _ _ _ _ said (fun _ h => by cases h) (by kernel_rfl) (fun _ h => by cases h) tokensNil_row_tie rfl ⟨rfl, rfl⟩ (by kernel_rfl) rfl plain (by kernel_rfl)
end Go.Proofs.YthglajoihlaldaaDoor.nilRow
