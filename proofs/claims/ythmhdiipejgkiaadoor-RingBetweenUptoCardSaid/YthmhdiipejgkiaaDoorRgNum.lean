/- Rings as numbers: adds near each other, under way. -/
import Derived.Test.YthmhdiipejgkiaaDoorRgJ
set_option linter.unusedSimpArgs false
set_option linter.unusedVariables false
namespace Go.Proofs.YthmhdiipejgkiaaDoor.Rg
open Go Sy
set_option maxRecDepth 100000
theorem cnt_eq {x : Int} (h0 : 0 ≤ x) (h1 : x < 18446744073709551616) : cnt x = x % 4294967296 := by
  obtain ⟨x, rfl⟩ : ∃ x' : Nat, x = x' := ⟨x.toNat, by omega⟩
  have h64 : IntKind.bits .u64 = 64 := rfl
  have h := Nat.and_two_pow_sub_one_eq_mod x 32
  unfold cnt
  rw [h64, BitVec.ofInt_natCast, show (4294967295 : Int) = ((4294967295 : Nat) : Int) from rfl, BitVec.ofInt_natCast, BitVec.toNat_and, BitVec.toNat_ofNat, BitVec.toNat_ofNat, Nat.mod_eq_of_lt (by omega), Nat.mod_eq_of_lt (by omega), show (4294967295 : Nat) = 2 ^ 32 - 1 from rfl, h, wrap_u]
  unfold w64
  omega
theorem tick_eq {x : Int} (h0 : 0 ≤ x) (h1 : x < 18446744073709551616) : tick x = x / 4294967296 := by
  unfold tick
  rw [show (2 : Int) ^ min (Int.toNat 32) (IntKind.bits .u64) = 4294967296 from rfl, Int.fdiv_eq_ediv_of_nonneg _ (by omega), wrap_i64 (by omega) (by omega)]
theorem tick_put {k b : Int} (hk0 : 0 ≤ k) (hk1 : k ≤ 4294967295) (hb0 : 0 ≤ b) (hb1 : b ≤ 4294967295) : tick (k * 4294967296 + b) = k ∧ cnt (k * 4294967296 + b) = b := by
  rw [tick_eq (by omega) (by omega), cnt_eq (by omega) (by omega)]
  omega
theorem tick_zero : tick 0 = 0 := by rw [tick_eq (by omega) (by omega)]; rfl
theorem cnt_zero : cnt 0 = 0 := by rw [cnt_eq (by omega) (by omega)]; rfl
theorem held_zero (k : Int) : held k 0 = 0 := by unfold held; rw [cnt_zero]; split <;> rfl
theorem at_inj {n : Nat} {lo a b : Int} (ha : lo ≤ a) (ha' : a < lo + n) (hb : lo ≤ b) (hb' : b < lo + n) (h : at_ a n = at_ b n) : a = b := by
  unfold at_ at h
  obtain ⟨c, hc⟩ : (n : Int) ∣ a - b := Int.dvd_of_emod_eq_zero (Int.emod_eq_emod_iff_emod_sub_eq_zero.1 h)
  rcases Int.lt_trichotomy c 0 with h | h | h
  · have : (n : Int) * c ≤ n * (-1) := Int.mul_le_mul_of_nonneg_left (by omega) (by omega)
    omega
  · subst h
    rw [Int.mul_zero] at hc
    omega
  · have : (n : Int) * 1 ≤ n * c := Int.mul_le_mul_of_nonneg_left (by omega) (by omega)
    omega
/-- An add under way. -/
structure RP where
  t : Int
  N : Int
  sw : Bool
  saw : Int
  put : Int
  done : Bool
  an : Int
  bg : Bool
def g (w k : Int) (u : RP) : Int := if u.done = true ∧ u.t / w = k then u.N else 0
def dn (w k : Int) (us : List RP) : Int := (us.map (g w k)).sum
def all (us : List RP) : Int := (us.map (·.N)).sum
def cd (us : List RP) : Int := (us.map fun u => if u.done = true then u.N else 0).sum
def cb (us : List RP) : Int := (us.map fun u => if u.bg = true then u.N else 0).sum
theorem sum_set {α : Type} (f : α → Int) : ∀ {us : List α} {j : Nat} {u u' : α}, us[j]? = some u → ((us.set j u').map f).sum = (us.map f).sum - f u + f u'
  | [], _, _, _, h => by simp at h
  | x :: us, 0, u, u', h => by
    simp at h
    subst h
    simp only [List.set_cons_zero, List.map_cons, List.sum_cons]
    omega
  | x :: us, j + 1, u, u', h => by
    have := sum_set f (us := us) (j := j) (u := u) (u' := u') (by simpa using h)
    simp only [List.set_cons_succ, List.map_cons, List.sum_cons]
    omega
theorem sum_le {α : Type} {f f' : α → Int} : ∀ {us : List α}, (∀ u ∈ us, f u ≤ f' u) → (us.map f).sum ≤ (us.map f').sum
  | [], _ => by simp
  | x :: us, h => by
    have h1 := h x (List.mem_cons_self ..)
    have h2 := sum_le (f := f) (f' := f') (us := us) (fun u hu => h u (List.mem_cons_of_mem _ hu))
    simp only [List.map_cons, List.sum_cons]
    omega
theorem sum_nonneg {α : Type} {f : α → Int} {us : List α} (h : ∀ u ∈ us, 0 ≤ f u) : 0 ≤ (us.map f).sum := by
  have := sum_le (f := fun _ => 0) (f' := f) (us := us) h
  have e : ∀ l : List α, (l.map fun _ => (0 : Int)).sum = 0 := fun l => by induction l <;> simp_all
  rw [e] at this
  exact this
/-- One action. -/
def stp (n : Nat) (w : Int) (xs : List Int) (u : RP) : List Int × RP :=
  if u.done = true then (xs, u)
  else if u.sw = true then
    if seeAt xs (at_ (u.t / w) n) = u.saw then (putAt xs (at_ (u.t / w) n) u.put, { u with sw := false, done := true, an := cnt u.put }) else (xs, { u with sw := false })
  else (xs, { u with sw := true, saw := seeAt xs (at_ (u.t / w) n), put := put (u.t / w) u.N (seeAt xs (at_ (u.t / w) n)) })
structure Inv (n : Nat) (w lo : Int) (xs : List Int) (us : List RP) : Prop where
  len : xs.length = n
  n0 : 0 < n
  w0 : 1 ≤ w
  lo0 : 0 ≤ lo
  ok : ∀ u ∈ us, 0 ≤ u.t ∧ u.t < 9223372036854775808 ∧ lo ≤ u.t / w ∧ u.t / w < lo + n ∧ u.t / w ≤ 4294967295 ∧ 0 ≤ u.N
  tot : all us ≤ 4294967295
  put : ∀ u ∈ us, u.sw = true → u.put = put (u.t / w) u.N u.saw
  val : ∀ k, lo ≤ k → k < lo + n → held k (seeAt xs (at_ k n)) = dn w k us
  tck : ∀ i : Int, 0 ≤ i → i < n → seeAt xs i = 0 ∨ (lo ≤ tick (seeAt xs i) ∧ tick (seeAt xs i) < lo + n ∧ at_ (tick (seeAt xs i)) n = i)
theorem dn_add {n : Nat} {w lo : Int} {xs : List Int} {us : List RP} (h : Inv n w lo xs us) {j : Nat} {u : RP} (hu : us[j]? = some u) (hd : u.done = false) : dn w (u.t / w) us + u.N ≤ 4294967295 := by
  have e := sum_set (g w (u.t / w)) (u' := { u with done := true }) hu
  have e2 := sum_set (f := RP.N) (u' := { u with done := true }) hu
  have hg : g w (u.t / w) u = 0 := by simp [g, hd]
  have hg2 : g w (u.t / w) { u with done := true } = u.N := by simp [g]
  have hle : ((us.set j { u with done := true }).map (g w (u.t / w))).sum ≤ ((us.set j { u with done := true }).map RP.N).sum := sum_le fun v hv => by
    have h0 : 0 ≤ v.N := by
      rcases List.mem_or_eq_of_mem_set hv with hv | rfl
      · exact (h.ok v hv).2.2.2.2.2
      · exact (h.ok u (List.mem_of_getElem? hu)).2.2.2.2.2
    unfold g
    split <;> omega
  have ht : (us.map RP.N).sum ≤ 4294967295 := h.tot
  have hN : RP.N { u with done := true } = u.N := rfl
  unfold dn
  omega
theorem see_lt {n : Nat} {w lo : Int} {xs : List Int} {us : List RP} (h : Inv n w lo xs us) {k : Int} : 0 ≤ at_ k n ∧ at_ k n < n ∧ (at_ k n).toNat < xs.length := by
  have a := at_nonneg (k := k) h.n0
  have b := at_lt (k := k) h.n0
  have := h.len
  omega
/-- What a load sees is not too late, and not too much. -/
theorem load_ok {n : Nat} {w lo : Int} {xs : List Int} {us : List RP} (h : Inv n w lo xs us) {j : Nat} {u : RP} (hu : us[j]? = some u) (hd : u.done = false) :
    ¬ tick (seeAt xs (at_ (u.t / w) n)) > u.t / w ∧ held (u.t / w) (seeAt xs (at_ (u.t / w) n)) + u.N ≤ 4294967295 := by
  obtain ⟨h1, h2, h3, h4, h5, h6⟩ := h.ok u (List.mem_of_getElem? hu)
  refine ⟨?_, by rw [h.val _ h3 h4]; exact dn_add h hu hd⟩
  have hq := Rg.div_nonneg h1 h.w0
  rcases h.tck _ (see_lt h).1 (see_lt h (k := u.t / w)).2.1 with e | ⟨a, b, c⟩
  · rw [e, tick_zero]; omega
  · rw [at_inj a b h3 h4 c]; omega
theorem see_put {xs : List Int} {i k : Int} {v : Int} (hi : 0 ≤ i) (hi' : i.toNat < xs.length) (hk : 0 ≤ k) : seeAt (putAt xs i v) k = if k = i then v else seeAt xs k := by
  unfold seeAt putAt
  split
  · rename_i e
    subst e
    simp [List.getD, hi']
  · rename_i e
    simp only [List.getD]
    rw [List.getElem?_set_ne (by omega)]
theorem step_inv {n : Nat} {w lo : Int} {xs : List Int} {us : List RP} (h : Inv n w lo xs us) {j : Nat} {u : RP} (hu : us[j]? = some u) {b : Bool} : Inv n w lo (stp n w xs u).1 (us.set j { (stp n w xs u).2 with bg := b }) := by
  have hum := List.mem_of_getElem? hu
  have hok := h.ok u hum
  have hset : ∀ {u' : RP} {xs' : List Int}, xs'.length = n → u'.t = u.t → u'.N = u.N → (u'.sw = true → u'.put = Rg.put (u'.t / w) u'.N u'.saw) → (∀ k, lo ≤ k → k < lo + n → held k (seeAt xs' (at_ k n)) = dn w k (us.set j u')) → (∀ i : Int, 0 ≤ i → i < n → seeAt xs' i = 0 ∨ (lo ≤ tick (seeAt xs' i) ∧ tick (seeAt xs' i) < lo + n ∧ at_ (tick (seeAt xs' i)) n = i)) → Inv n w lo xs' (us.set j u') := fun {u' xs'} a1 a2 a3 a4 a5 a6 => by
    refine ⟨a1, h.n0, h.w0, h.lo0, fun v hv => ?_, ?_, fun v hv => ?_, a5, a6⟩
    · rcases List.mem_or_eq_of_mem_set hv with hv | rfl
      · exact h.ok v hv
      · rw [a2, a3]; exact hok
    · have e := sum_set (f := RP.N) (u' := u') hu
      have ht : (us.map RP.N).sum ≤ 4294967295 := h.tot
      show ((us.set j u').map RP.N).sum ≤ _
      omega
    · rcases List.mem_or_eq_of_mem_set hv with hv | rfl
      · exact h.put v hv
      · exact a4
  have hdn : ∀ {u' : RP}, (∀ k, g w k u' = g w k u) → ∀ k, dn w k (us.set j u') = dn w k us := fun {u'} e k => by
    have := sum_set (g w k) (u' := u') hu
    have := e k
    unfold dn
    omega
  unfold stp
  split
  · exact hset h.len rfl rfl (h.put u hum) (fun k k1 k2 => by refine (h.val k k1 k2).trans ?_; refine (hdn ?_ k).symm; exact fun _ => rfl) h.tck
  rename_i hd
  split
  · rename_i hs
    split
    · rename_i he
      obtain ⟨h1, h2, h3, h4, h5, h6⟩ := hok
      have hq := Rg.div_nonneg h1 h.w0
      have hdf : u.done = false := by simpa using hd
      obtain ⟨hl1, hl2⟩ := load_ok h hu hdf
      have hp := h.put u hum hs
      rw [he] at hl2
      have hr := held_range (u.t / w) u.saw
      rw [put_eq hq h5 h6 hl2] at hp
      obtain ⟨p1, p2⟩ := tick_put hq h5 (show 0 ≤ u.N + held (u.t / w) u.saw by omega) (by omega)
      rw [← hp] at p1 p2
      have hs := see_lt h (k := u.t / w)
      refine hset (u' := { u with sw := false, done := true, an := cnt u.put, bg := b }) (by simp [putAt, h.len]) rfl rfl (fun h => by cases h) (fun k k1 k2 => ?_) (fun i i0 i1 => ?_)
      · have hk := see_lt h (k := k)
        rw [see_put hs.1 hs.2.2 hk.1]
        have e := sum_set (g w k) (u' := { u with sw := false, done := true, an := cnt u.put, bg := b }) hu
        have e0 : g w k u = 0 := by simp [g, hdf]
        have ev := h.val k k1 k2
        unfold dn at ev
        unfold dn
        split
        · rename_i ek
          have : k = u.t / w := at_inj k1 k2 h3 h4 ek
          subst this
          have e1 : g w (u.t / w) { u with sw := false, done := true, an := cnt u.put, bg := b } = u.N := by simp [g]
          have : held (u.t / w) u.put = u.N + held (u.t / w) u.saw := by rw [held, if_pos p1, p2]
          rw [he] at ev
          omega
        · rename_i ek
          have hkq : ¬ u.t / w = k := fun x => ek (by rw [x])
          have e1 : g w k { u with sw := false, done := true, an := cnt u.put, bg := b } = 0 := by simp [g, hkq]
          omega
      · rw [see_put hs.1 hs.2.2 i0]
        split
        · rename_i e
          right
          rw [p1, e]
          exact ⟨h3, h4, rfl⟩
        · exact h.tck i i0 i1
    · exact hset h.len rfl rfl (fun h => by cases h) (fun k k1 k2 => by refine (h.val k k1 k2).trans ?_; refine (hdn ?_ k).symm; exact fun _ => rfl) h.tck
  · exact hset h.len rfl rfl (fun _ => rfl) (fun k k1 k2 => by refine (h.val k k1 k2).trans ?_; refine (hdn ?_ k).symm; exact fun _ => rfl) h.tck
/-- What the slots of a window hold. -/
def win (w lo : Int) (m : Nat) (us : List RP) : Int := ((List.range m).map fun j : Nat => dn w (lo + (j : Int)) us).sum
theorem win_succ (w lo : Int) (m : Nat) (us : List RP) : win w lo (m + 1) us = win w lo m us + dn w (lo + m) us := by simp [win, List.range_succ]
theorem win_zero (w lo : Int) (us : List RP) : win w lo 0 us = 0 := rfl
theorem win_cons {w : Int} : ∀ {lo : Int} {m : Nat} {u : RP} {us : List RP}, win w lo m (u :: us) = win w lo m [u] + win w lo m us
  | lo, 0, u, us => rfl
  | lo, m + 1, u, us => by
    rw [win_succ, win_succ, win_succ, win_cons]
    simp only [dn, List.map_cons, List.sum_cons, List.map_nil, List.sum_nil]
    omega
theorem win_one {w : Int} {lo : Int} {u : RP} : ∀ {m : Nat}, win w lo m [u] = if u.done = true ∧ lo ≤ u.t / w ∧ u.t / w < lo + m then u.N else 0
  | 0 => by
    rw [if_neg (by omega)]; rfl
  | m + 1 => by
    rw [win_succ, win_one (m := m)]
    simp only [dn, List.map_cons, List.sum_cons, List.map_nil, List.sum_nil, g]
    by_cases h1 : u.done = true
    · simp only [h1, true_and]
      by_cases h2 : u.t / w = lo + m
      · rw [if_neg (by omega), if_pos h2, if_pos (by omega)]; omega
      · rw [if_neg h2]
        by_cases h3 : lo ≤ u.t / w ∧ u.t / w < lo + m
        · rw [if_pos h3, if_pos (by omega)]; omega
        · rw [if_neg h3, if_neg (by omega)]; omega
    · simp [h1]
theorem win_nil {w lo : Int} : ∀ {m : Nat}, win w lo m [] = 0
  | 0 => rfl
  | m + 1 => by rw [win_succ, win_nil (m := m)]; rfl
theorem win_le {w : Int} {lo : Int} {m : Nat} : ∀ {us : List RP}, (∀ u ∈ us, 0 ≤ u.N) → 0 ≤ win w lo m us ∧ win w lo m us ≤ cd us ∧ cd us ≤ all us
  | [], _ => by
    rw [win_nil]
    simp [cd, all]
  | u :: us, h => by
    have ih := win_le (w := w) (lo := lo) (m := m) (us := us) (fun v hv => h v (List.mem_cons_of_mem _ hv))
    have h0 := h u (List.mem_cons_self ..)
    rw [win_cons, win_one]
    simp only [cd, all, List.map_cons, List.sum_cons] at ih ⊢
    by_cases h1 : u.done = true
    · simp only [h1, true_and, if_true]
      split <;> omega
    · have h1' : u.done = false := by simpa using h1
      simp only [h1', Bool.false_eq_true, false_and, if_false]
      omega
theorem win_full {w : Int} {lo : Int} {m : Nat} : ∀ {us : List RP}, (∀ u ∈ us, lo ≤ u.t / w ∧ u.t / w < lo + m) → win w lo m us = cd us
  | [], _ => by rw [win_nil]; rfl
  | u :: us, h => by
    have ih := win_full (w := w) (lo := lo) (m := m) (us := us) (fun v hv => h v (List.mem_cons_of_mem _ hv))
    have h0 := h u (List.mem_cons_self ..)
    rw [win_cons, win_one, ih]
    simp only [cd, List.map_cons, List.sum_cons]
    by_cases h1 : u.done = true
    · rw [if_pos ⟨h1, h0⟩, if_pos h1]
    · rw [if_neg (fun x => h1 x.1), if_neg h1]
theorem win_cut (w lo : Int) (us : List RP) (a : Nat) : ∀ b : Nat, win w lo (a + b) us = win w lo a us + win w (lo + a) b us
  | 0 => by simp [win_zero]
  | b + 1 => by
    rw [show a + (b + 1) = (a + b) + 1 by omega, win_succ, win_cut w lo us a b, win_succ]
    rw [show lo + ((a + b : Nat) : Int) = lo + a + b by omega]
    omega
theorem win_mono {w lo : Int} {us us' : List RP} (h : ∀ k, dn w k us ≤ dn w k us') : ∀ m : Nat, win w lo m us ≤ win w lo m us'
  | 0 => by simp [win_zero]
  | m + 1 => by
    have := win_mono (lo := lo) h m
    have := h (lo + m)
    rw [win_succ, win_succ]
    omega
theorem all_done {us : List RP} (h : ∀ u ∈ us, u.done = true) : cd us = all us := by
  unfold cd all
  congr 1
  exact List.map_congr_left fun u hu => by rw [if_pos (h u hu)]
theorem cd_le_cb {us : List RP} (h : ∀ u ∈ us, 0 ≤ u.N ∧ (u.done = true → u.bg = true)) : cd us ≤ cb us := by
  refine sum_le fun u hu => ?_
  obtain ⟨h1, h2⟩ := h u hu
  by_cases hd : u.done = true
  · rw [if_pos hd, if_pos (h2 hd)]; omega
  · rw [if_neg hd]; split <;> omega
theorem dn_mono {n : Nat} {w lo : Int} {xs : List Int} {us : List RP} (h : Inv n w lo xs us) {j : Nat} {u : RP} (hu : us[j]? = some u) {b : Bool} (k : Int) : dn w k us ≤ dn w k (us.set j { (stp n w xs u).2 with bg := b }) := by
  have e := sum_set (g w k) (u' := { (stp n w xs u).2 with bg := b }) hu
  have hN := (h.ok u (List.mem_of_getElem? hu)).2.2.2.2.2
  have : g w k u ≤ g w k { (stp n w xs u).2 with bg := b } := by
    unfold stp g
    by_cases hd : u.done = true
    · simp [hd]
    · simp only [hd]
      by_cases hs : u.sw = true
      · simp only [hs]
        by_cases hx : seeAt xs (at_ (u.t / w) n) = u.saw
        · simp [hx]; split <;> omega
        · simp [hx]
      · simp [hs]
  unfold dn
  omega
theorem tot_from : ∀ (l : List Int) (a : Int), 0 ≤ a → a < 18446744073709551616 → l.foldl (fun a x => w64 (a + x)) a = w64 (a + l.sum)
  | [], a, h0, h1 => by
    unfold w64
    simp only [List.foldl_nil, List.sum_nil]
    omega
  | x :: l, a, h0, h1 => by
    rw [List.foldl_cons, tot_from l _ (by unfold w64; omega) (by unfold w64; omega), List.sum_cons]
    unfold w64
    omega
theorem tot_eq (l : List Int) : tot l = w64 l.sum := by
  unfold tot
  rw [tot_from l 0 (by omega) (by omega), Int.zero_add]
theorem slots_sum {n : Nat} {w lo : Int} {xs : List Int} {us : List RP} (h : Inv n w lo xs us) : ∀ {m : Nat}, m ≤ n → (slots xs n lo m).sum = win w lo m us
  | 0, _ => rfl
  | m + 1, hm => by
    rw [slots_succ, win_succ, List.sum_append, slots_sum h (m := m) (by omega)]
    have : slot xs n (lo + m) = dn w (lo + m) us := h.val _ (by omega) (by omega)
    simp [this]
theorem slots_tot {n : Nat} {w lo : Int} {xs : List Int} {us : List RP} (h : Inv n w lo xs us) {m : Nat} (hm : m ≤ n) (hq : ∀ u ∈ us, u.t / w < lo + m) (hd : ∀ u ∈ us, u.done = true) : tot (slots xs n lo m) = all us := by
  rw [tot_eq, slots_sum h hm, win_full (fun u hu => ⟨(h.ok u hu).2.2.1, hq u hu⟩), all_done hd]
  have h0 : 0 ≤ all us := sum_nonneg fun u hu => (h.ok u hu).2.2.2.2.2
  have := h.tot
  unfold w64
  omega
/-- Adds near each other. -/
structure Near (n : Nat) (w : Int) (l : List (Int × Int)) (lo hi : Int) : Prop where
  ok : ∀ u ∈ l, 0 ≤ u.1 ∧ u.1 < 9223372036854775808 ∧ u.1 / w ≤ 4294967295 ∧ 0 ≤ u.2 ∧ u.2 ≤ 4294967295 ∧ lo ≤ u.1 / w ∧ u.1 / w ≤ hi
  lo0 : 0 ≤ lo
  gap : hi - lo < n
  tot : (l.map Prod.snd).sum ≤ 4294967295
def rp0 (u : Int × Int) : RP := ⟨u.1, u.2, false, 0, 0, false, 0, false⟩
def late (l : List (Int × Int)) : Int := l.foldl (fun a u => if u.1 > a then u.1 else a) 0
theorem late_from : ∀ (l : List (Int × Int)) (a : Int), a ≤ l.foldl (fun a u => if u.1 > a then u.1 else a) a ∧ (∀ u ∈ l, u.1 ≤ l.foldl (fun a u => if u.1 > a then u.1 else a) a) ∧ (l.foldl (fun a u => if u.1 > a then u.1 else a) a = a ∨ ∃ u ∈ l, l.foldl (fun a u => if u.1 > a then u.1 else a) a = u.1)
  | [], a => ⟨by simp, by simp, by simp⟩
  | x :: l, a => by
    obtain ⟨h1, h2, h3⟩ := late_from l (if x.1 > a then x.1 else a)
    rw [List.foldl_cons]
    have hx : a ≤ (if x.1 > a then x.1 else a) ∧ x.1 ≤ (if x.1 > a then x.1 else a) := by split <;> omega
    refine ⟨by omega, fun u hu => ?_, ?_⟩
    · rcases List.mem_cons.1 hu with rfl | hu
      · omega
      · exact h2 u hu
    · rcases h3 with h3 | ⟨u, hu, h3⟩
      · rw [h3]
        by_cases hx : x.1 > a
        · rw [if_pos hx]; exact .inr ⟨x, List.mem_cons_self .., rfl⟩
        · rw [if_neg hx]; exact .inl rfl
      · exact .inr ⟨u, List.mem_cons_of_mem _ hu, h3⟩
/-- The window that ends with the latest has all. -/
theorem Near.inv {n : Nat} {w : Int} {l : List (Int × Int)} {lo hi : Int} (h : Near n w l lo hi) (hn : 0 < n) (hw : 1 ≤ w) : (0 ≤ late l ∧ late l < 9223372036854775808 ∧ late l / w ≤ 4294967295) ∧ Inv n w (k0 (late l / w) n) (List.replicate n 0) (l.map rp0) ∧ ∀ u ∈ l, u.1 / w < k0 (late l / w) n + many (late l / w) n := by
  obtain ⟨h1, h2, h3⟩ := late_from l 0
  have hl : late l = l.foldl (fun a u => if u.1 > a then u.1 else a) 0 := rfl
  rw [← hl] at h1 h2 h3
  have hb : late l < 9223372036854775808 ∧ late l / w ≤ 4294967295 := by
    rcases h3 with h3 | ⟨u, hu, h3⟩
    · rw [h3, Int.zero_ediv]; omega
    · obtain ⟨_, a, b, _⟩ := h.ok u hu
      rw [h3]; exact ⟨a, b⟩
  have hq := Rg.div_nonneg h1 hw
  obtain ⟨k1, k2, k3⟩ := k0_le hq hn
  have hmono : ∀ u ∈ l, u.1 / w ≤ late l / w := fun u hu => Int.ediv_le_ediv (by omega) (h2 u hu)
  have hlow : ∀ u ∈ l, k0 (late l / w) n ≤ u.1 / w := fun u hu => by
    obtain ⟨a1, _, _, _, _, a6, a7⟩ := h.ok u hu
    have hg := h.gap
    have := h.lo0
    have hlh : late l / w ≤ hi := by
      rcases h3 with h3 | ⟨v, hv, h3⟩
      · rw [h3, Int.zero_ediv]; omega
      · rw [h3]; exact (h.ok v hv).2.2.2.2.2.2
    unfold k0
    split <;> omega
  have hz : ∀ i : Int, seeAt (List.replicate n 0) i = 0 := fun i => by
    unfold seeAt
    simp only [List.getD]
    by_cases hi : i.toNat < n
    · rw [List.getElem?_replicate_of_lt hi]; rfl
    · rw [List.getElem?_eq_none (by simpa using hi)]; rfl
  have hd0 : ∀ k, dn w k (l.map rp0) = 0 := fun k => by
    unfold dn
    rw [List.map_map]
    have : ∀ l : List (Int × Int), (l.map (g w k ∘ rp0)).sum = 0 := fun l => by
      induction l with
      | nil => rfl
      | cons x l ih => rw [List.map_cons, List.sum_cons, ih]; rfl
    exact this l
  refine ⟨⟨h1, hb⟩, ⟨by simp, hn, hw, k1, fun u hu => ?_, ?_, fun u hu => ?_, fun k _ _ => ?_, fun i _ _ => ?_⟩, fun u hu => ?_⟩
  · obtain ⟨v, hv, rfl⟩ := List.mem_map.1 hu
    obtain ⟨a1, a2, a3, a4, _⟩ := h.ok v hv
    have := hmono v hv
    exact ⟨a1, a2, hlow v hv, by simp only [rp0]; omega, a3, a4⟩
  · unfold all
    rw [List.map_map]
    exact h.tot
  · obtain ⟨v, hv, rfl⟩ := List.mem_map.1 hu
    intro h
    cases h
  · rw [hz, held_zero, hd0]
  · exact .inl (hz i)
  · have := hmono u hu
    unfold many
    omega
end Go.Proofs.YthmhdiipejgkiaaDoor.Rg
