/- Swap: the laws' functions. -/
import Derived.Test.YtijnahgehahokaaSwMuch
set_option linter.unusedVariables false
set_option linter.unusedSimpArgs false
namespace Go.Sx
open Go.Proofs
/-- A contract whose arguments may be read more closely than the caller tells. -/
theorem contract_args {P : Program} {f : FuncId} {m : Spec} (h : CallOk P fun g args H κ => g = f ∧ m.con args H κ) : CallOk P fun g args H κ => g = f ∧ Spec.con (fun args κ => ∃ a0, (∀ E vals, relL args E vals → relL a0 E vals) ∧ m a0 κ) args H κ := by
  rintro g args H κ ⟨rfl, a0, hrel, hm⟩
  obtain ⟨h1, h2⟩ := h g a0 H κ ⟨rfl, hm⟩
  exact ⟨h1, fun E vals hO hr => h2 E vals hO (hrel _ _ hr)⟩
end Go.Sx
namespace Go.Sx.Sw
open Go.Sx Go.Proofs Go.Sx.Bn
set_option maxRecDepth 100000
set_option maxHeartbeats 4000000
abbrev SW := (Nat → Int) → (Nat → Int) → Nat → (Nat → Int) → (Nat → Int) → FB → FB → Nat → FB
/-- The program's swaps, of lists that are read. -/
def sp26 (sw : SW) : Spec := fun args κ => ∃ K C U B n cs ns ys m g1 g2, args = [.rs 4 n g1, .rs 3 m g2] ∧ (∀ j, j < n → g1 j = evC K C U B j) ∧ (∀ j, j < m → g2 j = swC cs ns ys j) ∧ n ≤ 150 ∧ (∀ i, i < n → (B i).size ≤ 20000) ∧ m ≤ 1000 ∧ (∀ i, i < m → (ys i).size ≤ 20000) ∧ κ (.rs 4 n (evC K C U (sw K C n cs ns ys B m)))
theorem sp26_ok : CallOk Try.prog fun g args H κ => g = 26 ∧ (sp26 swps).con args H κ := by
  have h : CallOk Try.prog fun g args H κ => g = 26 ∧ Spec.con (fun args κ => ∃ K C U B n cs ns ys m, args = [.rs 4 n (evC K C U B), .rs 3 m (swC cs ns ys)] ∧ n ≤ 150 ∧ (∀ i, i < n → (B i).size ≤ 20000) ∧ m ≤ 1000 ∧ (∀ i, i < m → (ys i).size ≤ 20000) ∧ κ (.rs 4 n (evC K C U (swps K C n cs ns ys B m)))) args H κ := by
    refine contract_ok2 (runF_ok tab_ok Γk_ok ΔP_ok 7) ?_
    rintro args κ ⟨K, C, U, B, n, cs, ns, ys, m, rfl, hn0, hB, hm, hy, hκ⟩
    exact ⟨rfl, _, _, vc26 K C U B n hn0 hB cs ns ys m hm hy, fun r E u h hr => by obtain ⟨get, rfl, hg⟩ := h; exact rel_rs_congr hg hr, hκ⟩
  have h2 := contract_args h
  rintro g args H κ ⟨rfl, K, C, U, B, n, cs, ns, ys, m, g1, g2, rfl, hg1, hg2, hn0, hB, hm, hy, hκ⟩
  refine h2 26 _ H κ ⟨rfl, _, ?_, K, C, U, B, n, cs, ns, ys, m, rfl, hn0, hB, hm, hy, hκ⟩
  intro E vals hr
  simp only [relL] at hr ⊢
  obtain ⟨v1, r1, rfl, e1, v2, r2, rfl, e2, rfl⟩ := hr
  exact ⟨v1, _, rfl, rel_rs_congr hg1 e1, v2, _, rfl, rel_rs_congr hg2 e2, rfl⟩
def aK (j : Nat) : Int := if j = 0 then 1 else 2
def aZ (j : Nat) : Int := 0
def aB : FB := fun j => if j = 0 then ⟨#[]⟩ else ⟨#[4, 0, 0, 1, 9]⟩
def aY : FB := fun j => ⟨#[7]⟩
theorem aw0 : swps aK aZ 2 aZ aZ aY aB 1 0 = ⟨#[]⟩ := by kernel_rfl
theorem aw1 : swps aK aZ 2 aZ aZ aY aB 1 1 = ⟨#[4, 0, 0, 1, 7]⟩ := by kernel_rfl
def ΔA (sw : SW) : Contracts := fun f => match f with
  | 26 => some (sp26 sw).con
  | _ => none
theorem ΔA_ok : ContractsOk Try.prog (ΔA swps) := by
  constructor
  intro f m hm
  unfold ΔA at hm
  split at hm
  · cases hm; exact sp26_ok
  · cases hm
theorem vc21 : runF std tab noΓ (ΔA swps) 2 21 [] [] (fin std fun r => r = Bo true) := by
  obtain ⟨O, hO⟩ : ∃ O, O = std := ⟨_, rfl⟩
  obtain ⟨xc, hxc⟩ : ∃ x, x = castI := ⟨_, rfl⟩
  obtain ⟨xw, hxw⟩ : ∃ x, x = swps := ⟨_, rfl⟩
  rw [← hO]
  try rw [← hxc]
  try rw [← hxw]
  obtain ⟨ar, cmp, neg, cv, mx, mn, nt, ite, beq, scmp, cat, sub, byte, ssz, of, nat, nadd, nsub, sel, inb, inc, le, ne0, nneg, eqn, room⟩ := O
  obtain ⟨_, _, _, _, _, _, _, _, _, _, _, _, _, _, _, rfl, _⟩ := leaf_eq hO
  cbv
  refine ⟨aK, aZ, aZ, aB, 2, aZ, aZ, aY, 1, _, _, rfl, ?_, ?_, by omega, ?_, by omega, ?_, ?_⟩
  · intro j hj
    rcases (by omega : j = 0 ∨ j = 1) with rfl | rfl <;> rfl
  · intro j hj
    obtain rfl : j = 0 := by omega
    rfl
  · intro i hi
    rcases (by omega : i = 0 ∨ i = 1) with rfl | rfl <;> decide
  · intro i hi; exact (by decide : (1 : Nat) ≤ 20000)
  cbv
  obtain ⟨rfl, rfl, rfl, rfl, rfl, rfl, rfl, rfl, rfl, rfl, rfl, rfl, rfl, rfl, rfl, _, rfl, rfl, rfl, rfl, rfl, rfl, rfl, rfl, rfl, rfl⟩ := leaf_eq hO
  rw [hxw, aw0, aw1]
  refine ⟨⟨fun _ => ⟨by simp [s_inb], by simp [s_inb], trivial⟩, fun _ => ⟨by simp [s_inb], trivial⟩, fun _ => ⟨by simp [s_inb], trivial⟩, trivial⟩, ?_⟩
  simp [s_of, s_eql, s_ite, s_seq]
/-- What the laws call. -/
def ΔL (mu : Nat → FB → Nat → FB → Bool) (sw : SW) (sm : (Nat → Int) → (Nat → Int) → FB → Int → Nat → ByteArray) (nf : ByteArray → Nat) (k0 k1 : ByteArray → Nat → Int) (k2 : ByteArray → Nat → ByteArray) : Contracts := fun f => match f with
  | 20 => some (Spec.con fun args κ => ∃ K C U B n cs ns ys m, args = [.rs 4 n (evC K C U B), .rs 3 m (swC cs ns ys)] ∧ n ≤ 140737488355328 ∧ (∀ i, i < n → (B i).size ≤ 140737488355328) ∧ m ≤ 140737488355328 ∧ (∀ i, i < m → (ys i).size ≤ 140737488355328) ∧ κ (Bo (mu n B m ys)))
  | 21 => some (Spec.con fun args κ => args = [] ∧ κ (Bo true))
  | 22 => some (Spec.con fun args κ => ∃ (a b : Nat → Int) (d : FB) (n : Nat), args = [.rs 3 n (fun j => [I (a j), I (b j), St (d j)]), .rs 3 n (fun j => [I (a j), I (b j), St (d j)])] ∧ n ≤ 140737488355328 ∧ κ (Bo true))
  | 23 => some (Spec.con fun args κ => ∃ K C U B n c, args = [.rs 4 n (evC K C U B), I c] ∧ n ≤ 150 ∧ (∀ i, i < n → (B i).size ≤ 20000) ∧ κ (.rs 3 (nf (sm K C B c n)) fun j => [I (k0 (sm K C B c n) j), I (k1 (sm K C B c n) j), St (k2 (sm K C B c n) j)]))
  | 24 => some (Spec.con fun args κ => ∃ K C U B n c, args = [.rs 4 n (evC K C U B), I c] ∧ n ≤ 150 ∧ (∀ i, i < n → (B i).size ≤ 20000) ∧ κ (.rs 3 (nf (sm K C B c n)) fun j => [I (k0 (sm K C B c n) j), I (k1 (sm K C B c n) j), St (k2 (sm K C B c n) j)]))
  | 25 => some (Spec.con fun args κ => ∃ K C U B n, args = [.rs 4 n (evC K C U B), .rs 4 n (evC K C U B)] ∧ n ≤ 140737488355328 ∧ κ (Bo true))
  | 26 => some (sp26 sw).con
  | 27 => some (Spec.con fun args κ => ∃ cs ns ys m, args = [.rs 3 m (swC cs ns ys)] ∧ m ≤ 1000 ∧ κ (.rs 3 m (swC cs ns ys)))
  | 28 => some (Spec.con fun args κ => ∃ K C U B n cs ns ys m, args = [.rs 4 n (evC K C U B), .rs 3 m (swC cs ns ys)] ∧ n ≤ 150 ∧ (∀ i, i < n → (B i).size ≤ 20000) ∧ m ≤ 1000 ∧ (∀ i, i < m → (ys i).size ≤ 20000) ∧ κ (.rs 4 n (evC K C U (sw K C n cs ns ys B m))))
  | _ => none
theorem ΔL_ok : ContractsOk Try.prog (ΔL much swps sm nf fk ff fb) := by
  constructor
  intro f m hm
  unfold ΔL at hm
  split at hm
  · cases hm
    refine contract_ok2 (runF_ok tab_ok noΓ_ok ΔM_ok 2) ?_
    rintro args κ ⟨K, C, U, B, n, cs, ns, ys, m, rfl, h1, h2, h3, h4, hκ⟩
    exact ⟨rfl, _, _, vc20 K C U B n h1 h2 cs ns ys m h3 h4, fun r E u h hr => by subst h; exact hr, hκ⟩
  · cases hm
    refine contract_ok2 (runF_ok tab_ok noΓ_ok ΔA_ok 2) ?_
    rintro args κ ⟨rfl, hκ⟩
    exact ⟨rfl, _, _, vc21, fun r E u h hr => by subst h; exact hr, hκ⟩
  · cases hm
    refine contract_ok2 (runF_ok tab_ok noΓ_ok noΔ_ok 2) ?_
    rintro args κ ⟨a, b, d, n, rfl, h1, hκ⟩
    exact ⟨rfl, _, _, vc22 a b d n h1, fun r E u h hr => by subst h; exact hr, hκ⟩
  · cases hm; exact ΔD_ok.ok 23 _ rfl
  · cases hm; exact ΔD_ok.ok 24 _ rfl
  · cases hm
    refine contract_ok2 (runF_ok tab_ok noΓ_ok noΔ_ok 2) ?_
    rintro args κ ⟨K, C, U, B, n, rfl, h1, hκ⟩
    exact ⟨rfl, _, _, vc25 K C U B n h1, fun r E u h hr => by subst h; exact hr, hκ⟩
  · cases hm; exact sp26_ok
  · cases hm
    refine contract_ok2 (runF_ok tab_ok noΓ_ok noΔ_ok 2) ?_
    rintro args κ ⟨cs, ns, ys, m, rfl, h1, hκ⟩
    exact ⟨rfl, _, _, vc27 cs ns ys m h1, fun r E u h hr => by obtain ⟨get, rfl, hg⟩ := h; exact rel_rs_congr hg hr, hκ⟩
  · cases hm
    refine contract_ok2 (runF_ok tab_ok noΓ_ok ΔB_ok 2) ?_
    rintro args κ ⟨K, C, U, B, n, cs, ns, ys, m, rfl, h1, h2, h3, h4, hκ⟩
    exact ⟨rfl, _, _, vc28 K C U B n h1 h2 cs ns ys m h3 h4, fun r E u h hr => by obtain ⟨get, rfl, hg⟩ := h; exact rel_rs_congr hg hr, hκ⟩
  · cases hm
theorem vc5 (K C U : Nat → Int) (B : FB) (n : Nat) (hn0 : n ≤ 140737488355328) (hB : ∀ i, i < n → (B i).size ≤ 140737488355328) (cs ns : Nat → Int) (ys : FB) (m : Nat) (hm : m ≤ 140737488355328) (hy : ∀ i, i < m → (ys i).size ≤ 140737488355328) :
    runF std tab noΓ (ΔL much swps sm nf fk ff fb) 2 5 [.rs 4 n (evC K C U B), .rs 3 m (swC cs ns ys)] [] (fin std fun r => r = Bo true) := by
  obtain ⟨O, hO⟩ : ∃ O, O = std := ⟨_, rfl⟩
  obtain ⟨xc, hxc⟩ : ∃ x, x = castI := ⟨_, rfl⟩
  obtain ⟨xu, hxu⟩ : ∃ x, x = much := ⟨_, rfl⟩
  obtain ⟨xw, hxw⟩ : ∃ x, x = swps := ⟨_, rfl⟩
  obtain ⟨T, hT⟩ : ∃ x, x = sm := ⟨_, rfl⟩
  obtain ⟨xM, hxM⟩ : ∃ x, x = nf := ⟨_, rfl⟩
  obtain ⟨x0, hx0⟩ : ∃ x, x = fk := ⟨_, rfl⟩
  obtain ⟨x1, hx1⟩ : ∃ x, x = ff := ⟨_, rfl⟩
  obtain ⟨xb, hxb⟩ : ∃ x, x = fb := ⟨_, rfl⟩
  obtain ⟨xi, hxi⟩ : ∃ x, x = (fun k : Nat => (k : Int) - 1) := ⟨_, rfl⟩
  rw [← hO]
  try rw [← hxc]
  try rw [← hxu]
  try rw [← hxw]
  try rw [← hT]
  try rw [← hxM]
  try rw [← hx0]
  try rw [← hx1]
  try rw [← hxb]
  try rw [← hxi]
  obtain ⟨ar, cmp, neg, cv, mx, mn, nt, ite, beq, scmp, cat, sub, byte, ssz, of, nat, nadd, nsub, sel, inb, inc, le, ne0, nneg, eqn, room⟩ := O
  cbv
  refine ⟨K, C, U, B, n, cs, ns, ys, m, rfl, hn0, hB, hm, hy, ?_⟩
  cbv
  refine ⟨fun _ => trivial, fun hmu => ?_⟩
  have hmu' := much_no (n := n) (B := B) (m := m) (ys := ys) (by rw [← hxu]; exact hmu)
  have g1 := hmu'.1
  have g2 := hmu'.2.1
  have g3 := hmu'.2.2.1
  have g4 := hmu'.2.2.2
  clear hmu'
  refine ⟨{k : Nat // k ≤ 18}, fun k => [(5, I (xi k.1)), (4, .v (.bool false)), (0, .rs 4 n (evC K C U B)), (1, .rs 3 m (swC cs ns ys))], fun _ => [], fun k => 18 - k.1, ⟨0, by omega⟩, fun k => by cbv, ?_, by cbv, fun k => ?_⟩
  · subst hxi; exact ⟨rfl, rfl, rfl, rfl, trivial⟩
  obtain ⟨k, hk⟩ := k
  cbv
  refine ⟨fun h => ⟨K, C, U, B, n, xi k, rfl, g1, g2, ?_⟩, fun h => ⟨cs, ns, ys, m, rfl, by omega, ?_⟩⟩
  · cbv
    refine ⟨K, C, U, B, n, xi k, rfl, g1, g2, ?_⟩
    cbv
    have hN : xM (T K C B (xi k) n) ≤ 3000000 := by
      rw [hxM, hT]
      have := nf_le (sm K C B (xi k) n)
      have := sm_size (K := K) (C := C) (c := xi k) g2 n (Nat.le_refl _)
      omega
    refine ⟨x0 (T K C B (xi k) n), x1 (T K C B (xi k) n), xb (T K C B (xi k) n), xM (T K C B (xi k) n), rfl, by omega, ?_⟩
    cbv
    obtain ⟨rfl, rfl, rfl, rfl, rfl, rfl, rfl, rfl, rfl, rfl, rfl, rfl, rfl, rfl, rfl, rfl, rfl, rfl, rfl, rfl, rfl, rfl, rfl, rfl, rfl, rfl⟩ := leaf_eq hO
    clear hO
    refine ⟨fun h2 => by simp [s_not] at h2, fun _ => ?_⟩
    have hkl : k < 18 := by
      have h' : std.cmp .lss (xi k) 17 = true := h
      rw [hxi] at h'
      have : ((k : Int) - 1 < 17) := by simpa [s_lss] using h'
      omega
    have e1 : std.ar .add .i64 (xi k) 1 = xi (k + 1) := by
      rw [hxi]
      show std.ar .add .i64 ((k : Int) - 1) 1 = ((k + 1 : Nat) : Int) - 1
      rw [s_add (by omega) (by omega)]; omega
    exact ⟨⟨k + 1, by omega⟩, ⟨congrArg (fun x => I x) e1, rfl, rfl, rfl, trivial⟩, trivial, by simp only; omega⟩
  · cbv
    refine ⟨K, C, U, B, n, cs, ns, ys, m, _, _, rfl, fun _ _ => rfl, fun _ _ => rfl, g1, g2, by omega, g4, ?_⟩
    cbv
    refine ⟨K, C, U, B, n, cs, ns, ys, m, rfl, g1, g2, by omega, g4, ?_⟩
    cbv
    refine ⟨K, C, U, _, n, rfl, by omega, ?_⟩
    cbv
    exact ⟨fun _ => trivial, fun h => by cases h⟩
end Go.Sx.Sw
