/- What bound's and the document's numbers come to, by the runner. -/
import Derived.Test.YtijnahgehahokaaSxTab
import Derived.Test.YtijnahgehahokaaSxTop
set_option linter.unusedVariables false
set_option linter.unusedSimpArgs false
namespace Go.Sx.Bn
open Go.Sx Go.Proofs
abbrev I (x : Int) : SV := .v (.int .i64 x)
def noΓ : Known := fun _ _ => .none
def noΔ : Contracts := fun _ => .none
def clamp (q : Int) : Int := if q < 1 then 1 else if q > 1048576 then 1048576 else q
def lim (b : Int) : Int := if b < 0 then 0 else if b > 1048576 then 1048576 else b
def rnd (q : Int) : Int := (clamp q + 1040) / 16
theorem wrap_of {x : Int} (h0 : -9223372036854775808 ≤ x) (h1 : x ≤ 9223372036854775807) : IntKind.i64.wrap x = x := by
  simp only [IntKind.wrap, IntKind.bits, IntKind.signed]
  simp
  omega
set_option maxRecDepth 100000
theorem clamp_bd (q : Int) : 1 ≤ clamp q ∧ clamp q ≤ 1048576 := by unfold clamp; split <;> (try split) <;> omega
theorem lim_bd (b : Int) : 0 ≤ lim b ∧ lim b ≤ 1048576 := by unfold lim; split <;> (try split) <;> omega
theorem rnd_bd (q : Int) : 0 ≤ rnd q ∧ rnd q ≤ 65601 := by have := clamp_bd q; unfold rnd; omega
theorem vc35 (b l m : Int) : runF std tab noΓ noΔ 2 35 [I b, I l, I m] [] (fin std fun r => r = I (if (if m < b then m else b) > l then (if m < b then m else b) else l)) := by
  obtain ⟨O, hO⟩ : ∃ O, O = std := ⟨_, rfl⟩
  rw [← hO]
  obtain ⟨v, hv⟩ : ∃ v, v = if (if m < b then m else b) > l then (if m < b then m else b) else l := ⟨_, rfl⟩
  rw [← hv]
  cbv
  subst hO
  rw [hv]
  rfl
theorem vc36 (q : Int) : runF std tab noΓ noΔ 2 36 [I q] [] (fin std fun r => r = I (clamp q)) := by
  obtain ⟨O, hO⟩ : ∃ O, O = std := ⟨_, rfl⟩
  rw [← hO]
  obtain ⟨v, hv⟩ : ∃ v, v = clamp q := ⟨_, rfl⟩
  rw [← hv]
  cbv
  subst hO
  simp only [std, decide_eq_true_eq, decide_eq_false_iff_not, SV.v.injEq, Value.int.injEq, true_and, hv, clamp]
  refine ⟨fun h => ?_, fun h => ⟨fun h' => ?_, fun h' => ?_⟩⟩
  · rw [if_pos h]
  · rw [if_neg h, if_pos h']
  · rw [if_neg h, if_neg h']
def wi (b l m : Int) : Int := if (if m < b then m else b) > l then (if m < b then m else b) else l
/-- What the numbers' first functions answer. -/
def Γ1 (wi : Int → Int → Int → Int) (cl : Int → Int) : Known := fun f a => match f, a with
  | 35, [.v (.int .i64 b), .v (.int .i64 l), .v (.int .i64 m)] => some (.int .i64 (wi b l m), True)
  | 36, [.v (.int .i64 q)] => some (.int .i64 (cl q), True)
  | _, _ => none
theorem known_mk {call : CallH} (hcall : CallOk Try.prog call) {Γ : Known} (h : ∀ f args x sc, Γ f args = some (x, sc) → Callable Try.prog f ∧ (sc → call f args [] (fin std fun r => r = .v x))) : KnownOk Try.prog Γ :=
  ⟨fun f args x sc hg hsc hs E vals hr hlt => (known_ok hcall ((h f args x sc hg).2 hsc)).2 hs E vals hr hlt, fun f args x sc hg => (h f args x sc hg).1⟩
theorem noΓ_ok : KnownOk Try.prog noΓ := ⟨fun _ _ _ _ h => by simp [noΓ] at h, fun _ _ _ _ h => by simp [noΓ] at h⟩
theorem noΔ_ok : ContractsOk Try.prog noΔ := by
  constructor
  intro f m h
  simp [noΔ] at h
theorem Γ1_ok : KnownOk Try.prog (Γ1 wi clamp) := by
  refine known_mk (runF_ok tab_ok noΓ_ok noΔ_ok 2) fun f args x sc h => ?_
  unfold Γ1 at h
  split at h
  · simp only [Option.some.injEq, Prod.mk.injEq] at h
    obtain ⟨rfl, rfl⟩ := h
    exact ⟨⟨_, Try.func35, rfl, rfl⟩, fun _ => vc35 _ _ _⟩
  · simp only [Option.some.injEq, Prod.mk.injEq] at h
    obtain ⟨rfl, rfl⟩ := h
    exact ⟨⟨_, Try.func36, rfl, rfl⟩, fun _ => vc36 _⟩
  · cases h
theorem wi0 (b : Int) : wi b 0 1048576 = lim b := by unfold wi lim; split <;> split <;> (try split) <;> omega
theorem wi1 (b : Int) : wi b 1 1048576 = clamp b := by unfold wi clamp; split <;> split <;> (try split) <;> omega
theorem vc8 (q : Int) : runF std tab (Γ1 wi clamp) noΔ 2 8 [I q] [] (fin std fun r => r = I (rnd q)) := by
  obtain ⟨O, hO⟩ : ∃ O, O = std := ⟨_, rfl⟩
  obtain ⟨v, hv⟩ : ∃ v, v = rnd q := ⟨_, rfl⟩
  obtain ⟨w, hw⟩ : ∃ w, w = wi := ⟨_, rfl⟩
  obtain ⟨c, hc⟩ : ∃ c, c = clamp := ⟨_, rfl⟩
  rw [← hO, ← hv, ← hw, ← hc]
  cbv
  subst hO hw hc
  have := clamp_bd q
  simp only [std, SV.v.injEq, Value.int.injEq, true_and, hv, wi1, rnd, ne_eq, and_true]
  simp (disch := omega) only [wrap_of, Int.tdiv_eq_ediv_of_nonneg]
  simp
theorem vc9 (q : Int) : runF std tab (Γ1 wi clamp) noΔ 2 9 [I q] [] (fin std fun r => r = I (rnd q)) := by
  obtain ⟨O, hO⟩ : ∃ O, O = std := ⟨_, rfl⟩
  obtain ⟨v, hv⟩ : ∃ v, v = rnd q := ⟨_, rfl⟩
  obtain ⟨w, hw⟩ : ∃ w, w = wi := ⟨_, rfl⟩
  obtain ⟨c, hc⟩ : ∃ c, c = clamp := ⟨_, rfl⟩
  rw [← hO, ← hv, ← hw, ← hc]
  cbv
  subst hO hw hc
  have := clamp_bd q
  simp only [std, SV.v.injEq, Value.int.injEq, true_and, hv, rnd, ne_eq, and_true]
  simp (disch := omega) only [wrap_of, Int.tdiv_eq_ediv_of_nonneg]
  simp
def Γ2 (wi : Int → Int → Int → Int) (cl rd : Int → Int) : Known := fun f a => match f, a with
  | 8, [.v (.int .i64 b)] => some (.int .i64 (rd b), True)
  | 9, [.v (.int .i64 b)] => some (.int .i64 (rd b), True)
  | f, a => Γ1 wi cl f a
theorem Γ2_ok : KnownOk Try.prog (Γ2 wi clamp rnd) := by
  have h2 := runF_ok tab_ok Γ1_ok noΔ_ok 2
  refine ⟨fun f args x sc h => ?_, fun f args x sc h => ?_⟩
  · unfold Γ2 at h
    split at h
    · simp only [Option.some.injEq, Prod.mk.injEq] at h
      obtain ⟨rfl, rfl⟩ := h
      exact fun _ hs E vals hr hlt => (known_ok h2 (vc8 _)).2 hs E vals hr hlt
    · simp only [Option.some.injEq, Prod.mk.injEq] at h
      obtain ⟨rfl, rfl⟩ := h
      exact fun _ hs E vals hr hlt => (known_ok h2 (vc9 _)).2 hs E vals hr hlt
    · exact Γ1_ok.calls _ _ x sc h
  · unfold Γ2 at h
    split at h
    · exact ⟨_, Try.func8, rfl, rfl⟩
    · exact ⟨_, Try.func9, rfl, rfl⟩
    · exact Γ1_ok.callable _ _ x sc h
/-- The first rounds' sum. -/
def sumG (g : Nat → Int) : Nat → Int
  | 0 => 0
  | n + 1 => sumG g n + rnd (g n)
theorem sumG_bd (g : Nat → Int) : ∀ n, 0 ≤ sumG g n ∧ sumG g n ≤ 65601 * n
  | 0 => by simp [sumG]
  | n + 1 => by have := sumG_bd g n; have := rnd_bd (g n); simp only [sumG]; omega
def up (b q : Int) : Int := (lim b + clamp q - 1) / clamp q
def most (b q : Int) (n : Nat) (g : Nat → Int) : Int := (up b q + 2) * sumG g (min n 8)
theorem up_bd (b q : Int) : 0 ≤ up b q ∧ up b q ≤ 2097152 := by
  have h1 := lim_bd b
  have h2 := clamp_bd q
  exact ⟨Int.ediv_nonneg (by omega) (by omega), Int.le_trans (Int.ediv_le_self _ (by omega)) (by omega)⟩
theorem most_bd (b q : Int) (n : Nat) (g : Nat → Int) : 0 ≤ most b q n g ∧ most b q n g ≤ 2097154 * 524808 := by
  have h1 := up_bd b q
  have h2 := sumG_bd g (min n 8)
  have h4 : sumG g (min n 8) ≤ 524808 := by omega
  unfold most
  exact ⟨Int.mul_nonneg (by omega) h2.1, Int.mul_le_mul (by omega) h4 h2.1 (by omega)⟩
theorem vc10 (b q : Int) (n : Nat) (hn : n ≤ 9223372036854775807) (g : Nat → Int) : runF std tab (Γ2 wi clamp rnd) noΔ 2 10 [I b, I q, .rs 1 n fun j => [I (g j)]] [] (fin std fun r => r = I (most b q n g)) := by
  obtain ⟨O, hO⟩ : ∃ O, O = std := ⟨_, rfl⟩
  obtain ⟨v, hv⟩ : ∃ v, v = most b q n g := ⟨_, rfl⟩
  obtain ⟨w, hw⟩ : ∃ w, w = wi := ⟨_, rfl⟩
  obtain ⟨c, hc⟩ : ∃ c, c = clamp := ⟨_, rfl⟩
  obtain ⟨r, hr⟩ : ∃ r, r = rnd := ⟨_, rfl⟩
  obtain ⟨sm, hsm⟩ : ∃ sm, sm = sumG g := ⟨_, rfl⟩
  obtain ⟨m, hm⟩ : ∃ m, m = min n 8 := ⟨_, rfl⟩
  rw [← hO, ← hv, ← hw, ← hc, ← hr]
  cbv
  have hc1 := clamp_bd q
  have hl1 := lim_bd b
  have hu1 := up_bd b q
  refine ⟨by rw [hO]; simp only [std]; omega, {i : Nat // i ≤ m}, fun i => [(20, I i.1), (7, I (sm i.1)), (19, I (m : Nat)), (18, .rs 1 m fun j => [I (g j)]), (0, I (w b 0 1048576)), (1, I (w q 1 1048576))], fun _ => [], fun i => m - i.1, ⟨0, by omega⟩, fun i => by cbv, ?_, by cbv, fun i => ?_⟩
  · cbv
    subst hO hsm
    have e : (if (8 : Int) < n then 8 else (n : Int)) = (m : Int) := by rw [hm]; split <;> omega
    simp only [std, e, Int.toNat_natCast, Int.ofNat_eq_natCast]
    simp [sumG]
  · cbv
    subst hO hsm hw hr
    obtain ⟨i, hi⟩ := i
    have hs1 := sumG_bd g i
    have hr1 := rnd_bd (g i)
    have hs2 := sumG_bd g m
    simp only [std, wi0, wi1, Int.ofNat_eq_natCast, decide_eq_true_eq, decide_eq_false_iff_not, Int.toNat_natCast]
    refine ⟨fun h => ⟨by omega, ⟨i + 1, by omega⟩, ?_, ?_, ?_⟩, fun h => ⟨by omega, ?_⟩⟩
    · simp (disch := omega) only [wrap_of]
      simp [leS, look, sumG]
    · simp [leH]
    · simp only; omega
    · obtain rfl : i = m := by omega
      have hm0 : 0 ≤ (up b q + 2) * sumG g i := by have := (most_bd b q n g).1; rw [most, ← hm] at this; exact this
      have hm1 : (up b q + 2) * sumG g i ≤ 2097154 * 524808 := by have := (most_bd b q n g).2; rw [most, ← hm] at this; exact this
      have e : (lim b + clamp q - 1) / clamp q = up b q := rfl
      simp (disch := omega) only [wrap_of, Int.tdiv_eq_ediv_of_nonneg, e]
      simp [hv, most, hm]
theorem up_eq {b q u r : Int} (e : lim b + clamp q - 1 = clamp q * u + r) (h0 : 0 ≤ r) (h1 : r < clamp q) : up b q = u := by
  have := clamp_bd q
  unfold up
  rw [e, Int.add_comm, Int.add_mul_ediv_left _ _ (by omega), Int.ediv_eq_zero_of_lt h0 h1]; omega
theorem up_steps {b q X : Int} (hX : lim b = X) : (IntKind.i64.wrap (IntKind.i64.wrap (X.tdiv (clamp q)) * clamp q) < X → IntKind.i64.wrap (IntKind.i64.wrap (X.tdiv (clamp q)) + 1) = up b q) ∧
    (¬ IntKind.i64.wrap (IntKind.i64.wrap (X.tdiv (clamp q)) * clamp q) < X → IntKind.i64.wrap (X.tdiv (clamp q)) = up b q) := by
  have hc1 := clamp_bd q
  have hl1 := lim_bd b
  have d0 : 0 ≤ lim b / clamp q := Int.ediv_nonneg (by omega) (by omega)
  have d1 : lim b / clamp q ≤ lim b := Int.ediv_le_self _ (by omega)
  have dm : clamp q * (lim b / clamp q) + lim b % clamp q = lim b := Int.mul_ediv_add_emod _ _
  have dmc : lim b / clamp q * clamp q = clamp q * (lim b / clamp q) := Int.mul_comm _ _
  have m0 : 0 ≤ lim b % clamp q := Int.emod_nonneg _ (by omega)
  have m1 : lim b % clamp q < clamp q := Int.emod_lt_of_pos _ (by omega)
  subst hX
  rw [Int.tdiv_eq_ediv_of_nonneg hl1.1, wrap_of (x := lim b / clamp q) (by omega) (by omega), wrap_of (x := lim b / clamp q * clamp q) (by omega) (by omega), wrap_of (x := lim b / clamp q + 1) (by omega) (by omega)]
  refine ⟨fun h => (up_eq (r := lim b % clamp q - 1) (by rw [Int.mul_add]; omega) (by omega) (by omega)).symm, fun h => (up_eq (r := clamp q - 1) (by omega) (by omega) (by omega)).symm⟩
theorem vc11 (b q : Int) (n : Nat) (hn : n ≤ 9223372036854775807) (g : Nat → Int) : runF std tab (Γ2 wi clamp rnd) noΔ 2 11 [I b, I q, .rs 1 n fun j => [I (g j)]] [] (fin std fun r => r = I (most b q n g)) := by
  obtain ⟨O, hO⟩ : ∃ O, O = std := ⟨_, rfl⟩
  obtain ⟨v, hv⟩ : ∃ v, v = most b q n g := ⟨_, rfl⟩
  obtain ⟨w, hw⟩ : ∃ w, w = wi := ⟨_, rfl⟩
  obtain ⟨c, hc⟩ : ∃ c, c = clamp := ⟨_, rfl⟩
  obtain ⟨r, hr⟩ : ∃ r, r = rnd := ⟨_, rfl⟩
  obtain ⟨sm, hsm⟩ : ∃ sm, sm = sumG g := ⟨_, rfl⟩
  obtain ⟨u, hu⟩ : ∃ u, u = up b q := ⟨_, rfl⟩
  rw [← hO, ← hv, ← hw, ← hc, ← hr]
  have hc1 := clamp_bd q
  have hu1 := up_bd b q
  have hm1 := most_bd b q n g
  rw [most] at hm1
  have lo : b < 0 → lim b = 0 := fun h => by unfold lim; rw [if_pos h]
  have hi : ¬ b < 0 → b > 1048576 → lim b = 1048576 := fun h h' => by unfold lim; rw [if_neg h, if_pos h']
  have mid : ¬ b < 0 → ¬ b > 1048576 → lim b = b := fun h h' => by unfold lim; rw [if_neg h, if_neg h']
  cbv
  refine ⟨fun k1 => ⟨fun k2 => ⟨?_, fun k3 => ?_, fun k3 => ?_⟩, fun k2 => ⟨?_, fun k3 => ?_, fun k3 => ?_⟩⟩, fun k1 => ⟨fun k2 => ⟨?_, fun k3 => ?_, fun k3 => ?_⟩, fun k2 => ⟨?_, fun k3 => ?_, fun k3 => ?_⟩⟩⟩
  all_goals first
    | (rw [hO, hc]; simp only [std]; omega)
    | (refine ⟨{i : Nat // i ≤ min n 8}, fun i => [(9, I i.1), (8, I (sm i.1)), (7, I u), (2, .rs 1 n fun j => [I (g j)])], fun _ => [], fun i => min n 8 - i.1, ⟨0, by omega⟩, fun i => by cbv, ?_, by cbv, fun i => ?_⟩
       · cbv
         subst hO hsm hc hu
         simp only [std, decide_eq_true_eq, decide_eq_false_iff_not] at k1 k2 k3 ⊢
         simp only [SV.v.injEq, Value.int.injEq, true_and, and_true, Int.ofNat_eq_natCast, sumG, Int.natCast_zero]
         first
           | (exfalso; omega)
           | exact (up_steps (lo k1)).1 k3
           | exact (up_steps (lo k1)).2 k3
           | exact (up_steps (hi k1 k2)).1 k3
           | exact (up_steps (hi k1 k2)).2 k3
           | exact (up_steps (mid k1 k2)).1 k3
           | exact (up_steps (mid k1 k2)).2 k3
       · clear k1 k2 k3
         cbv
         subst hO hsm hr hu
         obtain ⟨i, hi⟩ := i
         have hs1 := sumG_bd g i
         have hr1 := rnd_bd (g i)
         simp only [std, Int.ofNat_eq_natCast, decide_eq_true_eq, decide_eq_false_iff_not, Int.toNat_natCast]
         have fin : ¬ ((i : Int) < n ∧ (i : Int) < 8) → SV.v (Value.int IntKind.i64 (IntKind.i64.wrap (IntKind.i64.wrap (up b q + 2) * sumG g i))) = SV.v (Value.int IntKind.i64 v) := fun h => by
           obtain rfl : i = min n 8 := by omega
           rw [wrap_of (x := up b q + 2) (by omega) (by omega), wrap_of (by omega) (by omega), hv, most]
         refine ⟨⟨fun _ => trivial, trivial⟩, fun h => ?_, fun h => fin fun h' => ?_⟩
         · have h' : (i : Int) < n ∧ (i : Int) < 8 := by simpa using h
           refine ⟨by omega, ⟨i + 1, by omega⟩, ?_, by simp [leH], by simp only; omega⟩
           simp (disch := omega) only [wrap_of]
           simp [leS, look, sumG]
         · have : ¬ ((i : Int) < n ∧ (i : Int) < 8) := by simpa using h
           exact this h')
end Go.Sx.Bn
