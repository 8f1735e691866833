/- Swap: the document's swaps. -/
import Derived.Test.YtijnahgehahokaaSwRef
set_option linter.unusedVariables false
set_option linter.unusedSimpArgs false
namespace Go.Sx.Sw
open Go.Sx Go.Proofs Go.Sx.Bn
set_option maxRecDepth 100000
set_option maxHeartbeats 4000000
abbrev FB := Nat → ByteArray
def ΔD (ci : Nat → Int) (hh : (Nat → Int) → (Nat → Int) → Int → Nat → Bool) (sm : (Nat → Int) → (Nat → Int) → FB → Int → Nat → ByteArray) (nf : ByteArray → Nat) (k0 k1 : ByteArray → Nat → Int) (k2 : ByteArray → Nat → ByteArray) : Contracts := fun f => match f with
  | 59 => some (Spec.con fun args κ => ∃ K C U B n i c, args = [.rs 4 n (evC K C U B), I (ci i), I c] ∧ n ≤ 1000000 ∧ i < n ∧ κ (Bo (hh K C c i)))
  | 23 => some (Spec.con fun args κ => ∃ K C U B n c, args = [.rs 4 n (evC K C U B), I c] ∧ n ≤ 150 ∧ (∀ i, i < n → (B i).size ≤ 20000) ∧ κ (.rs 3 (nf (sm K C B c n)) fun j => [I (k0 (sm K C B c n) j), I (k1 (sm K C B c n) j), St (k2 (sm K C B c n) j)]))
  | 24 => some (Spec.con fun args κ => ∃ K C U B n c, args = [.rs 4 n (evC K C U B), I c] ∧ n ≤ 150 ∧ (∀ i, i < n → (B i).size ≤ 20000) ∧ κ (.rs 3 (nf (sm K C B c n)) fun j => [I (k0 (sm K C B c n) j), I (k1 (sm K C B c n) j), St (k2 (sm K C B c n) j)]))
  | _ => none
theorem ΔD_ok : ContractsOk Try.prog (ΔD castI hr sm nf fk ff fb) := by
  constructor
  intro f m hm
  unfold ΔD at hm
  split at hm
  · cases hm
    refine contract_ok2 (runF_ok tab_ok noΓ_ok noΔ_ok 2) ?_
    rintro args κ ⟨K, C, U, B, n, i, c, rfl, hn0, hi, hκ⟩
    exact ⟨rfl, _, _, vc59 K C U B n hn0 i hi c, fun r E u h hr => by subst h; exact hr, hκ⟩
  · cases hm
    refine contract_ok2 (runF_ok tab_ok noΓ_ok ΔS_ok 5) ?_
    rintro args κ ⟨K, C, U, B, n, c, rfl, hn0, hB, hκ⟩
    exact ⟨rfl, _, _, vc23 K C U B n hn0 hB c, fun r E u h hr => by obtain ⟨get, rfl, hg⟩ := h; exact rel_rs_congr hg hr, hκ⟩
  · cases hm
    refine contract_ok2 (runF_ok tab_ok noΓ_ok ΔR2_ok 2) ?_
    rintro args κ ⟨K, C, U, B, n, c, rfl, hn0, hB, hκ⟩
    exact ⟨rfl, _, _, vc24 K C U B n hn0 hB c, fun r E u h hr => by obtain ⟨get, rfl, hg⟩ := h; exact rel_rs_congr hg hr, hκ⟩
  · cases hm
/-- A script behind a swap. -/
def IsEv (K C U : Nat → Int) (n : Nat) (B : FB) (r : SV) : Prop := ∃ get, r = .rs 4 n get ∧ ∀ j, j < n → get j = evC K C U B j
theorem dcond1 (S : ByteArray) (nth : Int) (y : ByteArray) (h : (if (if (if nth < 0 then true else decide (nth ≥ ↑(nf S))) = true then true else !asks (fk S nth.toNat)) = true then true else decide (↑(fb S nth.toNat).size ≠ (↑y.size : Int))) = true) : can S nth y = false := by
  unfold can
  by_cases h1 : nth < 0
  · simp; intro a; omega
  · by_cases h2 : nth ≥ (nf S : Int)
    · simp; intro a b; omega
    · cases h3 : asks (fk S nth.toNat) with
      | false => simp
      | true =>
        simp only [h1, h2, h3] at h
        simp
        intro _ _ hs
        simp at h
        omega
theorem dcond0 (S : ByteArray) (nth : Int) (y : ByteArray) (h : (if (if (if nth < 0 then true else decide (nth ≥ ↑(nf S))) = true then true else !asks (fk S nth.toNat)) = true then true else decide (↑(fb S nth.toNat).size ≠ (↑y.size : Int))) = false) : can S nth y = true ∧ 0 ≤ nth ∧ nth < (nf S : Int) := by
  by_cases h1 : nth < 0
  · simp [h1] at h
  · by_cases h2 : nth ≥ (nf S : Int)
    · simp [h1, h2] at h
    · cases h3 : asks (fk S nth.toNat) with
      | false => simp [h1, h2, h3] at h
      | true =>
        simp only [h1, h2, h3] at h
        simp at h
        refine ⟨?_, by omega, by omega⟩
        unfold can
        simp [h3]
        omega
def fm (S : ByteArray) (i : Nat) : Int := ((4 + pos S i : Nat) : Int)
def xo (K C : Nat → Int) (B : FB) (c : Int) (i k : Nat) : Int := ((so K C B c i + k : Nat) : Int)
def bn (A B : FB) (i : Nat) : FB := fun j => if j < i then A j else B j
def gI (a b : ByteArray) (k j : Nat) : Int := if j < k then bt a j else bt b j
theorem fb_size (S : ByteArray) {i : Nat} (h : i < nf S) : ((fb S i).size : Int) = ln (rst S i) ∧ ((fb S i).size : Int) ≤ 1024 := by
  have hz := err_zero (nf_ok S h)
  have hl := ln_bd (rst S i)
  have hs : stp (rst S i) = 4 + (ln (rst S i)).toNat := rfl
  unfold fb bdy
  rw [ByteArray.size_extract]
  omega
theorem pos_succ (S : ByteArray) {i : Nat} (h : i < nf S) : pos S (i + 1) = pos S i + (4 + (fb S i).size) := by
  have := (fb_size S h).1
  have hl := ln_bd (rst S i)
  rw [pos, stp]; omega
theorem vc48 (K C U : Nat → Int) (B : FB) (n : Nat) (hn0 : n ≤ 150) (hB : ∀ i, i < n → (B i).size ≤ 20000) (c nth : Int) (y : ByteArray) (hy : y.size ≤ 20000) :
    runF std tab (Γk kn asks) (ΔD castI hr sm nf fk ff fb) 2 48 [.rs 4 n (evC K C U B), .a [I c, I nth, St y]] [] (fin std (IsEv K C U n (swp K C n B c nth y))) := by
  obtain ⟨O, hO⟩ : ∃ O, O = std := ⟨_, rfl⟩
  obtain ⟨P, hP⟩ : ∃ x, x = (IsEv K C U n (swp K C n B c nth y)) := ⟨_, rfl⟩
  obtain ⟨xc, hxc⟩ : ∃ x, x = castI := ⟨_, rfl⟩
  obtain ⟨T, hT⟩ : ∃ x, x = sm := ⟨_, rfl⟩
  obtain ⟨xN, hxN⟩ : ∃ x, x = nf := ⟨_, rfl⟩
  obtain ⟨x0, hx0⟩ : ∃ x, x = fk := ⟨_, rfl⟩
  obtain ⟨x1, hx1⟩ : ∃ x, x = ff := ⟨_, rfl⟩
  obtain ⟨x2, hx2⟩ : ∃ x, x = fb := ⟨_, rfl⟩
  obtain ⟨xh, hxh⟩ : ∃ x, x = hr := ⟨_, rfl⟩
  obtain ⟨xa, hxa⟩ : ∃ x, x = asks := ⟨_, rfl⟩
  obtain ⟨xk, hxk⟩ : ∃ x, x = kn := ⟨_, rfl⟩
  rw [← hO]
  try rw [← hP]
  try rw [← hxc]
  try rw [← hT]
  try rw [← hxN]
  try rw [← hx0]
  try rw [← hx1]
  try rw [← hx2]
  try rw [← hxh]
  try rw [← hxa]
  try rw [← hxk]
  obtain ⟨ar, cmp, neg, cv, mx, mn, nt, ite, beq, scmp, cat, sub, byte, ssz, of, nat, nadd, nsub, sel, inb, inc, le, ne0, nneg, eqn, room⟩ := O
  cbv
  refine ⟨K, C, U, B, n, c, rfl, hn0, hB, ?_⟩
  cbv
  obtain ⟨S, hS⟩ : ∃ S, S = T K C B c n := ⟨_, rfl⟩
  rw [← hS]
  have hS1 : S = sm K C B c n := by rw [hS, hT]
  have hSz : S.size ≤ 3000000 := by have := sm_size (K := K) (C := C) (c := c) hB n (Nat.le_refl _); rw [hS1]; omega
  have hnf := nf_le S
  refine ⟨?_, fun h => ?_, fun h => ?_⟩
  · skip
    obtain ⟨rfl, rfl, rfl, rfl, rfl, rfl, rfl, rfl, rfl, rfl, rfl, rfl, rfl, rfl, rfl, rfl, rfl, rfl, rfl, rfl, rfl, rfl, rfl, rfl, rfl, rfl⟩ := leaf_eq hO
    clear hO
    simp only [s_of, s_nat, s_nadd, s_nsub, s_ssz, s_lss, s_leq, s_gtr, s_geq, s_eql, s_neq, s_not, s_ite, s_beq, s_inb, s_inc, s_le, s_eqn, s_room, s_ne0, s_nneg, s_mx, s_mn, s_cat, s_subs, s_byte, d_true, d_false, Bool.not_eq_true', Bool.not_eq_false', hxN]
    refine ⟨fun _ => trivial, ⟨fun h => ?_, fun h => ?_, trivial⟩⟩
    · by_cases h1 : nth < 0
      · simp [h1] at h
      · simp [h1] at h; exact ⟨by omega, trivial⟩
    · by_cases h1 : nth < 0
      · simp [h1] at h
      · by_cases h2 : nth ≥ (nf S : Int)
        · simp [h1, h2] at h
        · exact ⟨by omega, trivial⟩
  · skip
    obtain ⟨rfl, rfl, rfl, rfl, rfl, rfl, rfl, rfl, rfl, rfl, rfl, rfl, rfl, rfl, rfl, rfl, rfl, rfl, rfl, rfl, rfl, rfl, rfl, rfl, rfl, rfl⟩ := leaf_eq hO
    clear hO
    simp only [s_of, s_nat, s_nadd, s_nsub, s_ssz, s_lss, s_leq, s_gtr, s_geq, s_eql, s_neq, s_not, s_ite, s_beq, s_inb, s_inc, s_le, s_eqn, s_room, s_ne0, s_nneg, s_mx, s_mn, s_cat, s_subs, s_byte, d_true, d_false, Bool.not_eq_true', Bool.not_eq_false', hxN, hxa, hx0, hx2] at h
    have hc := dcond1 S nth y h
    rw [hP]
    refine ⟨_, rfl, fun j hj => ?_⟩
    have : swp K C n B c nth y j = B j := by unfold swp; rw [← hS1, if_neg (by simp [hc])]
    simp only [evC, this]
  have hcan : can S nth y = true ∧ 0 ≤ nth ∧ nth < (nf S : Int) := by
    obtain ⟨rfl, rfl, rfl, rfl, rfl, rfl, rfl, rfl, rfl, rfl, rfl, rfl, rfl, rfl, rfl, rfl, rfl, rfl, rfl, rfl, rfl, rfl, rfl, rfl, rfl, rfl⟩ := leaf_eq hO
    clear hO
    simp only [s_of, s_nat, s_nadd, s_nsub, s_ssz, s_lss, s_leq, s_gtr, s_geq, s_eql, s_neq, s_not, s_ite, s_beq, s_inb, s_inc, s_le, s_eqn, s_room, s_ne0, s_nneg, s_mx, s_mn, s_cat, s_subs, s_byte, d_true, d_false, Bool.not_eq_true', Bool.not_eq_false', hxN, hxa, hx0, hx2] at h
    exact dcond0 S nth y h
  clear h
  obtain ⟨hcan, hn1, hn2⟩ := hcan
  obtain ⟨nn, rfl⟩ := Int.eq_ofNat_of_zero_le hn1
  have hn2' : nn < nf S := by omega
  clear hn1 hn2
  obtain ⟨xm, hxm⟩ : ∃ f, f = fm := ⟨_, rfl⟩
  obtain ⟨N0, hN0⟩ : ∃ f : Int, f = (nn : Int) := ⟨_, rfl⟩
  rw [← hN0]
  refine ⟨{i : Nat // i ≤ nn}, fun i => [(7, I (xc i.1)), (6, I (xm S i.1)), (3, .p 0 0), (5, .rs 3 (xN S) fun j => [I (x0 S j), I (x1 S j), St (x2 S j)]), (0, .rs 4 n (evC K C U B))],
    fun _ => [.cells [I c, I N0, St y] 84], fun i => nn - i.1, ⟨0, by omega⟩, fun i => by cbv, ?_, ?_, fun i => ?_⟩
  · subst hxc hxm; exact ⟨rfl, rfl, rfl, rfl, rfl, trivial⟩
  · exact ⟨⟨rfl, rfl⟩, trivial⟩
  obtain ⟨i, hi⟩ := i
  cbv
  refine ⟨fun h => ?_, fun h => ?_⟩
  · skip
    obtain ⟨rfl, rfl, rfl, rfl, rfl, rfl, rfl, rfl, rfl, rfl, rfl, rfl, rfl, rfl, rfl, rfl, rfl, rfl, rfl, rfl, rfl, rfl, rfl, rfl, rfl, rfl⟩ := leaf_eq hO
    clear hO
    have hin : i < nn := by rw [hxc, hN0] at h; simpa [s_lss, s_castI] using h
    have hinf : i < nf S := by omega
    have hni : std.nat (xc i) = i := by rw [hxc]; simp [s_nat, s_castI]
    have hp := pos_succ S hinf
    have hfb := fb_size S hinf
    obtain ⟨hp1, _, _⟩ := rst_eq S i (by omega)
    have e1 : std.ar .add .i64 (xc i) 1 = xc (i + 1) := by rw [hxc]; simp (disch := omega) only [s_castI, s_add]; omega
    have e2 : std.ar .add .i64 (xm S i) (std.ar .add .i64 4 (std.of (std.ssize (x2 S i)))) = xm S (i + 1) := by
      rw [hxm, hx2]
      show std.ar .add .i64 (fm S i) (std.ar .add .i64 4 (std.of (std.ssize (fb S i)))) = fm S (i + 1)
      simp (disch := omega) only [s_of, s_ssz, fm, s_add]
      omega
    simp only [hni]
    refine ⟨by rw [hxc, hxN]; simp only [s_inb, s_castI]; omega, ⟨i + 1, by omega⟩, ⟨congrArg (fun x => I x) e1, congrArg (fun x => I x) e2, rfl, rfl, rfl, trivial⟩, ⟨⟨rfl, rfl⟩, trivial⟩, by simp only; omega⟩
  have hinn : i = nn := by
    obtain ⟨rfl, rfl, rfl, rfl, rfl, rfl, rfl, rfl, rfl, rfl, rfl, rfl, rfl, rfl, rfl, rfl, rfl, rfl, rfl, rfl, rfl, rfl, rfl, rfl, rfl, rfl⟩ := leaf_eq hO
    clear hO
    rw [hxc, hN0] at h
    have : ¬ i < nn := by simpa [s_lss, s_castI] using h
    omega
  subst hinn
  clear h
  cbv
  obtain ⟨A, hA⟩ : ∃ A : FB, A = fun j => ovl (B j) (so K C B c j) (pos S i + 4) y := ⟨_, rfl⟩
  obtain ⟨N1, hN1⟩ : ∃ A : FB, A = swp K C n B c (i : Int) y := ⟨_, rfl⟩
  have hsw : ∀ j, N1 j = if hr K C c j = true then A j else B j := by
    intro j; rw [hN1, hA]; unfold swp; rw [← hS1]; simp only [hcan, true_and, Int.toNat_natCast]
  have hAs : ∀ j, (A j).size = (B j).size := fun j => by rw [hA]; exact ovl_size _ _ _ _
  clear hcan
  obtain ⟨xb, hxb⟩ : ∃ f, f = bn N1 B := ⟨_, rfl⟩
  obtain ⟨xq, hxq⟩ : ∃ f, f = xo K C B c := ⟨_, rfl⟩
  obtain ⟨xg, hxg⟩ : ∃ f : Nat → Nat → Nat → Int, f = fun e => gI (A e) (B e) := ⟨_, rfl⟩
  have hso : ∀ e, e ≤ n → so K C B c e ≤ 20000 * e := fun e he => sm_size hB e he
  have hps : pos S i ≤ 3000000 := by obtain ⟨hp1, _, _⟩ := rst_eq S i (by omega); omega
  refine ⟨?_, ?_, {e : Nat // e ≤ n}, fun e => [(10, I (xc e.1)), (9, I (xq e.1 0)), (8, .o 1 1), (6, I (xm S i)), (3, .p 0 0), (0, .rs 4 n (evC K C U B))],
    fun e => [.cells [I c, I N0, St y] 84, .row 62 4 n (evC K C U (xb e.1)) 1], fun e => n - e.1, ⟨0, by omega⟩, fun e => by cbv, ?_, ?_, fun e => ?_⟩
  · skip
    obtain ⟨rfl, rfl, rfl, rfl, rfl, rfl, rfl, rfl, rfl, rfl, rfl, rfl, rfl, rfl, rfl, rfl, rfl, rfl, rfl, rfl, rfl, rfl, rfl, rfl, rfl, rfl⟩ := leaf_eq hO
    clear hO
    rfl
  · skip
    obtain ⟨rfl, rfl, rfl, rfl, rfl, rfl, rfl, rfl, rfl, rfl, rfl, rfl, rfl, rfl, rfl, rfl, rfl, rfl, rfl, rfl, rfl, rfl, rfl, rfl, rfl, rfl⟩ := leaf_eq hO
    clear hO
    simp only [s_room, s_nadd, maxLen]; omega
  · skip
    obtain ⟨rfl, rfl, rfl, rfl, rfl, rfl, rfl, rfl, rfl, rfl, rfl, rfl, rfl, rfl, rfl, rfl, rfl, rfl, rfl, rfl, rfl, rfl, rfl, rfl, rfl, rfl⟩ := leaf_eq hO
    clear hO
    subst hxc hxq; exact ⟨rfl, rfl, rfl, rfl, rfl, rfl, trivial⟩
  · skip
    obtain ⟨rfl, rfl, rfl, rfl, rfl, rfl, rfl, rfl, rfl, rfl, rfl, rfl, rfl, rfl, rfl, rfl, rfl, rfl, rfl, rfl, rfl, rfl, rfl, rfl, rfl, rfl⟩ := leaf_eq hO
    clear hO
    refine ⟨⟨rfl, rfl⟩, ⟨rfl, rfl, by simp only [s_nadd]; omega, rfl, fun j hj => ?_⟩, trivial⟩
    subst hxb
    rfl
  obtain ⟨e, he⟩ := e
  cbv
  refine ⟨fun h => ?_, fun h => ?_⟩
  rotate_left
  · skip
    obtain ⟨rfl, rfl, rfl, rfl, rfl, rfl, rfl, rfl, rfl, rfl, rfl, rfl, rfl, rfl, rfl, rfl, rfl, rfl, rfl, rfl, rfl, rfl, rfl, rfl, rfl, rfl⟩ := leaf_eq hO
    clear hO
    have : e = n := by
      rw [hxc] at h
      have : ¬ e < n := by simpa [s_lss, s_castI, s_of] using h
      omega
    subst this
    refine ⟨rfl, ?_⟩
    rw [hP]
    refine ⟨_, rfl, fun j hj => ?_⟩
    subst hxb
    simp only [evC, bn, hj, if_true, ← hN1]
  have hen : e < n := by
    obtain ⟨rfl, rfl, rfl, rfl, rfl, rfl, rfl, rfl, rfl, rfl, rfl, rfl, rfl, rfl, rfl, rfl, rfl, rfl, rfl, rfl, rfl, rfl, rfl, rfl, rfl, rfl⟩ := leaf_eq hO
    clear hO
    rw [hxc] at h; simpa [s_lss, s_castI, s_of] using h
  clear h
  refine ⟨K, C, U, B, n, e, c, rfl, by omega, hen, ?_⟩
  cbv
  have hb1 := hB e hen
  have ho1 := hso e he
  refine ⟨fun h => ?_, fun h => ⟨?_, ?_⟩⟩
  · skip
    obtain ⟨rfl, rfl, rfl, rfl, rfl, rfl, rfl, rfl, rfl, rfl, rfl, rfl, rfl, rfl, rfl, rfl, rfl, rfl, rfl, rfl, rfl, rfl, rfl, rfl, rfl, rfl⟩ := leaf_eq hO
    clear hO
    have hh : hr K C c e = false := by rw [hxh] at h; simpa [s_not] using h
    have e1 : std.ar .add .i64 (xc e) 1 = xc (e + 1) := by rw [hxc]; simp (disch := omega) only [s_castI, s_add]; omega
    have e2 : xq e 0 = xq (e + 1) 0 := by rw [hxq]; simp only [xo, so, sm]; rw [if_neg (by simp [hh])]
    have e3 : ∀ j, xb e j = xb (e + 1) j := by
      intro j
      rw [hxb]
      simp only [bn]
      by_cases hj : j < e
      · rw [if_pos hj, if_pos (by omega)]
      · rw [if_neg hj]
        by_cases hj2 : j = e
        · subst hj2; rw [if_pos (by omega), hsw, if_neg (by simp [hh])]
        · rw [if_neg (by omega)]
    refine ⟨⟨e + 1, by omega⟩, ⟨congrArg (fun x => I x) e1, congrArg (fun x => I x) e2, rfl, rfl, rfl, rfl, trivial⟩, ⟨⟨rfl, rfl⟩, ⟨rfl, rfl, rfl, rfl, fun j hj => ?_⟩, trivial⟩, by simp only; omega⟩
    show evC K C U (xb e) j = evC K C U (xb (e + 1)) j
    simp only [evC, e3]
  · skip
    obtain ⟨rfl, rfl, rfl, rfl, rfl, rfl, rfl, rfl, rfl, rfl, rfl, rfl, rfl, rfl, rfl, rfl, rfl, rfl, rfl, rfl, rfl, rfl, rfl, rfl, rfl, rfl⟩ := leaf_eq hO
    clear hO
    rw [hxc]; simp only [s_inb, s_castI]; omega
  have hh : hr K C c e = true := by
    obtain ⟨rfl, rfl, rfl, rfl, rfl, rfl, rfl, rfl, rfl, rfl, rfl, rfl, rfl, rfl, rfl, rfl, rfl, rfl, rfl, rfl, rfl, rfl, rfl, rfl, rfl, rfl⟩ := leaf_eq hO
    clear hO
    rw [hxh] at h; simpa [s_not] using h
  clear h
  refine ⟨{k : Nat // k ≤ (B e).size}, fun k => [(12, I (xc k.1)), (9, I (xq e k.1)), (11, .o 2 0), (10, I (xc e)), (8, .o 1 1), (6, I (xm S i)), (3, .p 0 0), (0, .rs 4 n (evC K C U B))],
    fun k => [.cells [I c, I N0, St y] 84, .row 62 4 n (evC K C U (xb e)) 1, .buf (ssz (B e)) (xg e k.1)], fun k => (B e).size - k.1, ⟨0, by omega⟩, fun k => by cbv, ?_, ?_, fun k => ?_⟩
  · subst hxc; exact ⟨rfl, rfl, rfl, rfl, rfl, rfl, rfl, rfl, trivial⟩
  · skip
    obtain ⟨rfl, rfl, rfl, rfl, rfl, rfl, rfl, rfl, rfl, rfl, rfl, rfl, rfl, rfl, rfl, rfl, rfl, rfl, rfl, rfl, rfl, rfl, rfl, rfl, rfl, rfl⟩ := leaf_eq hO
    clear hO
    have hne : std.nat (xc e) = e := by rw [hxc]; simp [s_nat, s_castI]
    refine ⟨⟨rfl, rfl⟩, ⟨rfl, rfl, rfl, rfl, fun j _ => rfl⟩, ⟨?_, fun j hj => ?_⟩, trivial⟩
    · show std.ssize (B (std.nat (xc e))) = std.ssize (B e); rw [hne]
    · show std.byte (B (std.nat (xc e))) (std.of j) = xg e 0 j
      rw [hne, hxg]; simp only [s_byte, s_of, Int.toNat_natCast, gI]; rw [if_neg (by omega)]
  obtain ⟨k, hk⟩ := k
  cbv
  refine ⟨?_, fun h => ?_, fun h => ?_⟩
  · skip
    obtain ⟨rfl, rfl, rfl, rfl, rfl, rfl, rfl, rfl, rfl, rfl, rfl, rfl, rfl, rfl, rfl, rfl, rfl, rfl, rfl, rfl, rfl, rfl, rfl, rfl, rfl, rfl⟩ := leaf_eq hO
    clear hO
    rfl
  · skip
    obtain ⟨rfl, rfl, rfl, rfl, rfl, rfl, rfl, rfl, rfl, rfl, rfl, rfl, rfl, rfl, rfl, rfl, rfl, rfl, rfl, rfl, rfl, rfl, rfl, rfl, rfl, rfl⟩ := leaf_eq hO
    clear hO
    have hkl : k < (B e).size := by rw [hxc] at h; simpa [s_lss, s_castI, s_of, s_ssz] using h
    have e1 : std.ar .add .i64 (xc k) 1 = xc (k + 1) := by rw [hxc]; simp (disch := omega) only [s_castI, s_add]; omega
    have e2 : std.ar .add .i64 (xq e k) 1 = xq e (k + 1) := by rw [hxq]; simp only [xo]; rw [s_add (by omega) (by omega)]; omega
    have hnk : std.nat (xc k) = k := by rw [hxc]; simp [s_nat, s_castI]
    have hcnd : std.ite (std.cmp .geq (xq e k) (xm S i)) (std.cmp .lss (xq e k) (std.ar .add .i64 (xm S i) (std.of (std.ssize y)))) false = decide (pos S i + 4 ≤ so K C B c e + k ∧ so K C B c e + k < pos S i + 4 + y.size) := by
      rw [hxq, hxm]
      simp (disch := omega) only [xo, fm, s_of, s_ssz, s_add, s_geq, s_lss, s_ite]
      rw [Bool.eq_iff_iff]
      simp only [decide_eq_true_eq]
      by_cases hq : pos S i + 4 ≤ so K C B c e + k
      · have : ((so K C B c e + k : Nat) : Int) ≥ ((4 + pos S i : Nat) : Int) := by omega
        simp [this]; omega
      · have : ¬ ((so K C B c e + k : Nat) : Int) ≥ ((4 + pos S i : Nat) : Int) := by omega
        simp [this]; omega
    have hbt : bt (A e) k = if pos S i + 4 ≤ so K C B c e + k ∧ so K C B c e + k < pos S i + 4 + y.size then bt y (so K C B c e + k - (pos S i + 4)) else bt (B e) k := by
      rw [hA]
      simp only [bt, ovl_gb _ _ _ _ k hkl]
      split <;> rfl
    have hup : ∀ (v : Int), v = bt (A e) k → ∀ j, updI (xg e k) k v j = xg e (k + 1) j := by
      intro v hv j
      rw [hxg]
      simp only [updI, gI]
      by_cases hj : j = k
      · subst hj; simp [hv]
      · have hb : Nat.beq j k = false := by cases h : Nat.beq j k with | false => rfl | true => exact absurd (Nat.eq_of_beq_eq_true h) hj
        rw [hb]
        by_cases hj2 : j < k
        · simp [hj2, show j < k + 1 by omega]
        · simp [hj2, show ¬ j < k + 1 by omega]
    have hst : ∀ (v : Int), v = bt (A e) k → leH [.cells [I c, I N0, St y] 84, .row 62 4 n (evC K C U (xb e)) 1, .buf (std.ssize (B e)) (updI (xg e k) (std.nat (xc k)) v)] [.cells [I c, I N0, St y] 84, .row 62 4 n (evC K C U (xb e)) 1, .buf (std.ssize (B e)) (xg e (k + 1))] := by
      intro v hv
      rw [hnk]
      exact ⟨⟨rfl, rfl⟩, ⟨rfl, rfl, rfl, rfl, fun j _ => rfl⟩, ⟨rfl, fun j _ => hup v hv j⟩, trivial⟩
    have hsame : bt (A e) k = bt (B e) k → leH [.cells [I c, I N0, St y] 84, .row 62 4 n (evC K C U (xb e)) 1, .buf (std.ssize (B e)) (xg e k)] [.cells [I c, I N0, St y] 84, .row 62 4 n (evC K C U (xb e)) 1, .buf (std.ssize (B e)) (xg e (k + 1))] := by
      intro hv
      refine ⟨⟨rfl, rfl⟩, ⟨rfl, rfl, rfl, rfl, fun j _ => rfl⟩, ⟨rfl, fun j _ => ?_⟩, trivial⟩
      rw [hxg]
      simp only [gI]
      by_cases hj : j = k
      · subst hj; simp [hv]
      · by_cases hj2 : j < k
        · simp [hj2, show j < k + 1 by omega]
        · simp [hj2, show ¬ j < k + 1 by omega]
    refine ⟨⟨fun _ => trivial, trivial⟩, fun h2 => ?_, fun h2 => ?_⟩
    · have h3 : pos S i + 4 ≤ so K C B c e + k ∧ so K C B c e + k < pos S i + 4 + y.size := by
        have : decide (pos S i + 4 ≤ so K C B c e + k ∧ so K C B c e + k < pos S i + 4 + y.size) = true := by rw [← hcnd]; exact h2
        simpa using this
      have hsub : std.ar .sub .i64 (xq e k) (xm S i) = ((so K C B c e + k - (pos S i + 4) : Nat) : Int) := by
        rw [hxq, hxm]; simp only [xo, fm]; rw [s_sub (by omega) (by omega)]; omega
      have hv : std.byte y (std.ar .sub .i64 (xq e k) (xm S i)) = bt (A e) k := by rw [hsub, hbt, if_pos h3, s_byte, Int.toNat_natCast]
      refine ⟨?_, ⟨rfl, ?_⟩, ?_, ⟨k + 1, by omega⟩, ⟨congrArg (fun x => I x) e1, congrArg (fun x => I x) e2, rfl, rfl, rfl, rfl, rfl, rfl, trivial⟩, hst _ hv, by simp only; omega⟩
      · show std.inb (std.ar .sub .i64 (xq e k) (xm S i)) (std.ssize y); rw [hsub]; simp only [s_inb, s_ssz]; omega
      · rw [hxc]; simp only [s_inb, s_castI, s_ssz]; omega
      · rw [hxc]; simp only [s_inb, s_castI, s_ssz]; omega
    · have h3 : ¬ (pos S i + 4 ≤ so K C B c e + k ∧ so K C B c e + k < pos S i + 4 + y.size) := by
        have : decide (pos S i + 4 ≤ so K C B c e + k ∧ so K C B c e + k < pos S i + 4 + y.size) = false := by rw [← hcnd]; exact h2
        simpa using this
      exact ⟨⟨k + 1, by omega⟩, ⟨congrArg (fun x => I x) e1, congrArg (fun x => I x) e2, rfl, rfl, rfl, rfl, rfl, rfl, trivial⟩, hsame (by rw [hbt, if_neg h3]), by simp only; omega⟩
  have hke : k = (B e).size := by
    obtain ⟨rfl, rfl, rfl, rfl, rfl, rfl, rfl, rfl, rfl, rfl, rfl, rfl, rfl, rfl, rfl, rfl, rfl, rfl, rfl, rfl, rfl, rfl, rfl, rfl, rfl, rfl⟩ := leaf_eq hO
    clear hO
    rw [hxc] at h
    have : ¬ k < (B e).size := by simpa [s_lss, s_castI, s_of, s_ssz] using h
    omega
  subst hke
  clear h
  refine ⟨?_, A e, ?_, ?_, ?_⟩
  · skip
    obtain ⟨rfl, rfl, rfl, rfl, rfl, rfl, rfl, rfl, rfl, rfl, rfl, rfl, rfl, rfl, rfl, rfl, rfl, rfl, rfl, rfl, rfl, rfl, rfl, rfl, rfl, rfl⟩ := leaf_eq hO
    clear hO
    rfl
  · skip
    obtain ⟨rfl, rfl, rfl, rfl, rfl, rfl, rfl, rfl, rfl, rfl, rfl, rfl, rfl, rfl, rfl, rfl, rfl, rfl, rfl, rfl, rfl, rfl, rfl, rfl, rfl, rfl⟩ := leaf_eq hO
    clear hO
    exact hAs e
  · skip
    obtain ⟨rfl, rfl, rfl, rfl, rfl, rfl, rfl, rfl, rfl, rfl, rfl, rfl, rfl, rfl, rfl, rfl, rfl, rfl, rfl, rfl, rfl, rfl, rfl, rfl, rfl, rfl⟩ := leaf_eq hO
    clear hO
    intro j hj
    have hj' : j < (B e).size := hj
    rw [hxg]
    show gI (A e) (B e) (B e).size j = std.byte (A e) (std.of j)
    simp only [gI, s_byte, s_of, Int.toNat_natCast]
    rw [if_pos hj']
  cbv
  obtain ⟨rfl, rfl, rfl, rfl, rfl, rfl, rfl, rfl, rfl, rfl, rfl, rfl, rfl, rfl, rfl, rfl, rfl, rfl, rfl, rfl, rfl, rfl, rfl, rfl, rfl, rfl⟩ := leaf_eq hO
  clear hO
  have e1 : std.ar .add .i64 (xc e) 1 = xc (e + 1) := by rw [hxc]; simp (disch := omega) only [s_castI, s_add]; omega
  have hne : std.nat (xc e) = e := by rw [hxc]; simp [s_nat, s_castI]
  have e2 : xq e (B e).size = xq (e + 1) 0 := by
    rw [hxq]; simp only [xo, so, sm]; rw [if_pos hh, ByteArray.size_append]; omega
  have hup : ∀ j, updR (evC K C U (xb e)) e (fun cs => setAt cs 3 (cellsOf (.v (.string (A e))))) j = evC K C U (xb (e + 1)) j := by
    intro j
    rw [hxb]
    by_cases hj : j = e
    · subst hj
      simp only [updR, Nat.beq_refl, cond_true, evC, bn, show j < j + 1 by omega, if_true, hsw, hh]
      rfl
    · have hb : Nat.beq j e = false := by cases h : Nat.beq j e with | false => rfl | true => exact absurd (Nat.eq_of_beq_eq_true h) hj
      simp only [updR, hb, cond_false, evC, bn]
      by_cases hj2 : j < e
      · simp [hj2, show j < e + 1 by omega]
      · simp [hj2, show ¬ j < e + 1 by omega]
  simp only [hne]
  refine ⟨⟨rfl, by rw [hxc]; simp only [s_inb, s_castI]; omega⟩, rfl, by simp only [s_le, s_nadd]; omega, ⟨e + 1, by omega⟩, ⟨congrArg (fun x => I x) e1, congrArg (fun x => I x) e2, rfl, rfl, rfl, rfl, trivial⟩, ⟨⟨rfl, rfl⟩, ⟨rfl, rfl, rfl, rfl, fun j _ => hup j⟩, trivial⟩, by simp only; omega⟩
/-- The document's swaps, one behind the other. -/
def swC (cs ns : Nat → Int) (ys : FB) (j : Nat) : List SV := [I (cs j), I (ns j), St (ys j)]
def ΔB (sw : (Nat → Int) → (Nat → Int) → Nat → FB → Int → Int → ByteArray → FB) : Contracts := fun f => match f with
  | 48 => some (Spec.con fun args κ => ∃ K C U B n c nth y, args = [.rs 4 n (evC K C U B), .a [I c, I nth, St y]] ∧ n ≤ 150 ∧ (∀ i, i < n → (B i).size ≤ 20000) ∧ y.size ≤ 20000 ∧ κ (.rs 4 n (evC K C U (sw K C n B c nth y))))
  | _ => none
theorem ΔB_ok : ContractsOk Try.prog (ΔB swp) := by
  constructor
  intro f m hm
  unfold ΔB at hm
  split at hm
  · cases hm
    refine contract_ok2 (runF_ok tab_ok Γk_ok ΔD_ok 2) ?_
    rintro args κ ⟨K, C, U, B, n, c, nth, y, rfl, hn0, hB, hy, hκ⟩
    exact ⟨rfl, _, _, vc48 K C U B n hn0 hB c nth y hy, fun r E u h hr => by obtain ⟨get, rfl, hg⟩ := h; exact rel_rs_congr hg hr, hκ⟩
  · cases hm
theorem vc28 (K C U : Nat → Int) (B : FB) (n : Nat) (hn0 : n ≤ 150) (hB : ∀ i, i < n → (B i).size ≤ 20000) (cs ns : Nat → Int) (ys : FB) (m : Nat) (hm : m ≤ 1000) (hy : ∀ j, j < m → (ys j).size ≤ 20000) :
    runF std tab noΓ (ΔB swp) 2 28 [.rs 4 n (evC K C U B), .rs 3 m (swC cs ns ys)] [] (fin std (IsEv K C U n (swps K C n cs ns ys B m))) := by
  obtain ⟨O, hO⟩ : ∃ O, O = std := ⟨_, rfl⟩
  obtain ⟨P, hP⟩ : ∃ x, x = (IsEv K C U n (swps K C n cs ns ys B m)) := ⟨_, rfl⟩
  obtain ⟨xc, hxc⟩ : ∃ x, x = castI := ⟨_, rfl⟩
  obtain ⟨xw, hxw⟩ : ∃ x, x = swp := ⟨_, rfl⟩
  obtain ⟨W, hW⟩ : ∃ x, x = swps K C n cs ns ys B := ⟨_, rfl⟩
  rw [← hO]
  try rw [← hP]
  try rw [← hxc]
  try rw [← hxw]
  try rw [← hW]
  obtain ⟨ar, cmp, neg, cv, mx, mn, nt, ite, beq, scmp, cat, sub, byte, ssz, of, nat, nadd, nsub, sel, inb, inc, le, ne0, nneg, eqn, room⟩ := O
  cbv
  refine ⟨{j : Nat // j ≤ m}, fun j => [(5, I (xc j.1)), (0, .rs 4 n (evC K C U (W j.1))), (1, .rs 3 m (swC cs ns ys))], fun _ => [], fun j => m - j.1, ⟨0, by omega⟩, fun j => by cbv, ?_, by cbv, fun j => ?_⟩
  · subst hxc hW; exact ⟨rfl, rfl, rfl, trivial⟩
  obtain ⟨j, hj⟩ := j
  cbv
  refine ⟨fun h => ?_, fun h => ?_⟩
  · have hjm : j < m := by
      obtain ⟨rfl, rfl, rfl, rfl, rfl, rfl, rfl, rfl, rfl, rfl, rfl, rfl, rfl, rfl, rfl, rfl, rfl, rfl, rfl, rfl, rfl, rfl, rfl, rfl, rfl, rfl⟩ := leaf_eq hO
      clear hO
      rw [hxc] at h; simpa [s_lss, s_castI, s_of] using h
    have hnj : nat (xc j) = j := by
      obtain ⟨rfl, rfl, rfl, rfl, rfl, rfl, rfl, rfl, rfl, rfl, rfl, rfl, rfl, rfl, rfl, rfl, rfl, rfl, rfl, rfl, rfl, rfl, rfl, rfl, rfl, rfl⟩ := leaf_eq hO
      clear hO
      rw [hxc]; simp [s_nat, s_castI]
    refine ⟨?_, K, C, U, W j, n, cs j, ns j, ys j, ?_, hn0, fun i hi => by rw [hW, swps_size]; exact hB i hi, hy j hjm, ?_⟩
    · skip
      obtain ⟨rfl, rfl, rfl, rfl, rfl, rfl, rfl, rfl, rfl, rfl, rfl, rfl, rfl, rfl, rfl, rfl, rfl, rfl, rfl, rfl, rfl, rfl, rfl, rfl, rfl, rfl⟩ := leaf_eq hO
      clear hO
      rw [hxc]; simp only [s_inb, s_castI]; omega
    · show [SV.rs 4 n (evC K C U (W j)), SV.a [I (cs (nat (xc j))), I (ns (nat (xc j))), St (ys (nat (xc j)))]] = _
      rw [hnj]
    cbv
    obtain ⟨rfl, rfl, rfl, rfl, rfl, rfl, rfl, rfl, rfl, rfl, rfl, rfl, rfl, rfl, rfl, rfl, rfl, rfl, rfl, rfl, rfl, rfl, rfl, rfl, rfl, rfl⟩ := leaf_eq hO
    clear hO
    have e1 : std.ar .add .i64 (xc j) 1 = xc (j + 1) := by rw [hxc]; simp (disch := omega) only [s_castI, s_add]; omega
    refine ⟨⟨j + 1, by omega⟩, ⟨congrArg (fun x => I x) e1, ?_, rfl, trivial⟩, trivial, by simp only; omega⟩
    rw [hW, hxw]; rfl
  · skip
    obtain ⟨rfl, rfl, rfl, rfl, rfl, rfl, rfl, rfl, rfl, rfl, rfl, rfl, rfl, rfl, rfl, rfl, rfl, rfl, rfl, rfl, rfl, rfl, rfl, rfl, rfl, rfl⟩ := leaf_eq hO
    clear hO
    have : j = m := by
      rw [hxc] at h
      have : ¬ j < m := by simpa [s_lss, s_castI, s_of] using h
      omega
    subst this
    rw [hP, hW]
    exact ⟨_, rfl, fun j _ => rfl⟩
end Go.Sx.Sw
