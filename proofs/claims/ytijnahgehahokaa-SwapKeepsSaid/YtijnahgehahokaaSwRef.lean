/- Swap: the document's streams and frames. -/
import Derived.Test.YtijnahgehahokaaSwFrames
set_option linter.unusedVariables false
set_option linter.unusedSimpArgs false
namespace Go.Sx.Sw
open Go.Sx Go.Proofs Go.Sx.Bn
set_option maxRecDepth 100000
set_option maxHeartbeats 4000000
theorem rcond (K C : Nat → Int) (c : Int) (i : Nat) : (if (if (if K i ≠ 2 then true else decide (C i ≠ c)) = true then true else decide (c < 0)) = true then true else decide (c > 15)) = true → hr K C c i = false := by
  intro h
  cases hh : hr K C c i with
  | false => rfl
  | true =>
    rw [hr, decide_eq_true_eq] at hh
    obtain ⟨h1, h2, h3, h4, h5⟩ := hh
    simp [h1, h2] at h
    omega
theorem rcond' (K C : Nat → Int) (c : Int) (i : Nat) (h : (if (if (if K i ≠ 2 then true else decide (C i ≠ c)) = true then true else decide (c < 0)) = true then true else decide (c > 15)) = false) : hr K C c i = decide ((opn K i : Int) > c) := by
  have h1 : K i = 2 := by
    by_cases h1 : K i = 2
    · exact h1
    · simp [h1] at h
  have h2 : C i = c := by
    by_cases h2 : C i = c
    · exact h2
    · simp [h1, h2] at h
  have h3 : ¬ c < 0 := by intro h3; simp [h1, h2, h3] at h
  have h4 : ¬ c > 15 := by intro h4; simp [h1, h2, h3, h4] at h
  rw [Bool.eq_iff_iff, hr, decide_eq_true_eq, decide_eq_true_eq]
  constructor
  · rintro ⟨_, _, _, _, h⟩; omega
  · intro h; exact ⟨h1, h2, by omega, by omega, by omega⟩
theorem vc59 (K C U : Nat → Int) (B : Nat → ByteArray) (n : Nat) (hn0 : n ≤ 1000000) (i : Nat) (hi : i < n) (c : Int) : runF std tab noΓ noΔ 2 59 [.rs 4 n (evC K C U B), I (castI i), I c] [] (fin std fun r => r = Bo (hr K C c i)) := by
  obtain ⟨O, hO⟩ : ∃ O, O = std := ⟨_, rfl⟩
  obtain ⟨P, hP⟩ : ∃ x, x = hr K C c i := ⟨_, rfl⟩
  obtain ⟨xc, hxc⟩ : ∃ x, x = castI := ⟨_, rfl⟩
  obtain ⟨op, hop⟩ : ∃ x, x = opn K := ⟨_, rfl⟩
  rw [← hO]
  try rw [← hP]
  try rw [← hxc]
  try rw [← hop]
  obtain ⟨ar, cmp, neg, cv, mx, mn, nt, ite, beq, scmp, cat, sub, byte, ssz, of, nat, nadd, nsub, sel, inb, inc, le, ne0, nneg, eqn, room⟩ := O
  cbv
  have hni : std.nat (castI i) = i := by simp [s_nat, s_castI]
  refine ⟨?_, ⟨fun _ => ⟨?_, trivial⟩, trivial⟩, ⟨fun _ => trivial, trivial⟩, ⟨fun _ => trivial, trivial⟩, fun h => ?_, fun h => ?_⟩
  · skip
    obtain ⟨rfl, rfl, rfl, rfl, rfl, rfl, rfl, rfl, rfl, rfl, rfl, rfl, rfl, rfl, rfl, rfl, rfl, rfl, rfl, rfl, rfl, rfl, rfl, rfl, rfl, rfl⟩ := leaf_eq hO
    clear hO
    rw [hxc]; simp only [s_inb, s_castI]; omega
  · skip
    obtain ⟨rfl, rfl, rfl, rfl, rfl, rfl, rfl, rfl, rfl, rfl, rfl, rfl, rfl, rfl, rfl, rfl, rfl, rfl, rfl, rfl, rfl, rfl, rfl, rfl, rfl, rfl⟩ := leaf_eq hO
    clear hO
    rw [hxc]; simp only [s_inb, s_castI]; omega
  · skip
    obtain ⟨rfl, rfl, rfl, rfl, rfl, rfl, rfl, rfl, rfl, rfl, rfl, rfl, rfl, rfl, rfl, rfl, rfl, rfl, rfl, rfl, rfl, rfl, rfl, rfl, rfl, rfl⟩ := leaf_eq hO
    clear hO
    simp only [s_of, s_nat, s_nadd, s_nsub, s_ssz, s_lss, s_leq, s_gtr, s_geq, s_eql, s_neq, s_not, s_ite, s_beq, s_inb, s_inc, s_le, s_eqn, s_room, s_ne0, s_nneg, s_mx, s_mn, s_cat, s_subs, s_byte, d_true, d_false, Bool.not_eq_true', Bool.not_eq_false', hxc, hni, s_castI, Int.toNat_natCast] at h
    rw [hP, rcond K C c i h]
  refine ⟨{k : Nat // k ≤ i}, fun k => [(8, I (xc k.1)), (7, I (xc (op k.1))), (0, .rs 4 n (evC K C U B)), (1, I (xc i)), (2, I c)], fun _ => [], fun k => i - k.1, ⟨0, by omega⟩, fun k => by cbv, ?_, by cbv, fun k => ?_⟩
  · subst hxc hop; exact ⟨rfl, rfl, rfl, rfl, rfl, trivial⟩
  obtain ⟨k, hk⟩ := k
  cbv
  obtain ⟨rfl, rfl, rfl, rfl, rfl, rfl, rfl, rfl, rfl, rfl, rfl, rfl, rfl, rfl, rfl, rfl, rfl, rfl, rfl, rfl, rfl, rfl, rfl, rfl, rfl, rfl⟩ := leaf_eq hO
  clear hO
  have ho : op k ≤ k := by rw [hop]; exact opn_le K k
  simp only [s_of, s_nat, s_nadd, s_nsub, s_ssz, s_lss, s_leq, s_gtr, s_geq, s_eql, s_neq, s_not, s_ite, s_beq, s_inb, s_inc, s_le, s_eqn, s_room, s_ne0, s_nneg, s_mx, s_mn, s_cat, s_subs, s_byte, d_true, d_false, Bool.not_eq_true', Bool.not_eq_false', hxc, hni, s_castI, Int.toNat_natCast] at h
  have hc := rcond' K C c i h
  clear h
  simp (disch := omega) only [s_of, s_nat, s_nadd, s_nsub, s_ssz, s_lss, s_leq, s_gtr, s_geq, s_eql, s_neq, s_not, s_ite, s_beq, s_inb, s_inc, s_le, s_eqn, s_room, s_ne0, s_nneg, s_mx, s_mn, s_cat, s_subs, s_byte, d_true, d_false, Bool.not_eq_true', Bool.not_eq_false', hxc, s_castI, Int.toNat_natCast, s_add]
  refine ⟨fun h1 => ⟨⟨by omega, by omega⟩, fun h2 => ⟨⟨k + 1, by omega⟩, ⟨congrArg (fun x => I x) (by show _ = ((k + 1 : Nat) : Int); omega), congrArg (fun x => I x) (by show _ = ((op (k + 1) : Nat) : Int); rw [hop, opn, if_pos h2]; omega), rfl, rfl, rfl, trivial⟩, trivial, by simp only; omega⟩,
    fun h2 => ⟨⟨k + 1, by omega⟩, ⟨congrArg (fun x => I x) (by show _ = ((k + 1 : Nat) : Int); omega), congrArg (fun x => I x) (by show _ = ((op (k + 1) : Nat) : Int); rw [hop, opn, if_neg h2]; omega), rfl, rfl, rfl, trivial⟩, trivial, by simp only; omega⟩⟩, fun h1 => ?_⟩
  have : k = i := by omega
  rw [hP, hc, this, hop]
/-- The document's stream. -/
def ΔR (O : Leaf) (zz : ByteArray → Nat) (er l k0 k1 w sp : ByteArray → Int) (bd : ByteArray → ByteArray) (ci : Nat → Int) (hh : (Nat → Int) → (Nat → Int) → Int → Nat → Bool) (ak : Int → Bool) : Contracts := fun f => match f with
  | 59 => some (Spec.con fun args κ => ∃ K C U B n i c, args = [.rs 4 n (evC K C U B), I (ci i), I c] ∧ n ≤ 1000000 ∧ i < n ∧ κ (Bo (hh K C c i)))
  | 58 => ΔT zz er l k0 k1 w sp bd 58
  | _ => none
theorem ΔR_ok : ContractsOk Try.prog (ΔR std ByteArray.size err ln b0 b1 wn sp bdy castI hr asks) := by
  constructor
  intro f m hm
  unfold ΔR at hm
  split at hm
  · cases hm
    refine contract_ok2 (runF_ok tab_ok noΓ_ok noΔ_ok 2) ?_
    rintro args κ ⟨K, C, U, B, n, i, c, rfl, hn0, hi, hκ⟩
    exact ⟨rfl, _, _, vc59 K C U B n hn0 i hi c, fun r E u h hr => by subst h; exact hr, hκ⟩
  · exact ΔT_ok.ok _ _ hm
  · cases hm
theorem vc45 (K C U : Nat → Int) (B : Nat → ByteArray) (n : Nat) (hn0 : n ≤ 150) (hB : ∀ i, i < n → (B i).size ≤ 20000) (c : Int) :
    runF std tab noΓ (ΔR std ByteArray.size err ln b0 b1 wn sp bdy castI hr asks) 2 45 [.rs 4 n (evC K C U B), I c] [] (fin std fun r => r = St (sm K C B c n)) := by
  obtain ⟨O, hO⟩ : ∃ O, O = std := ⟨_, rfl⟩
  obtain ⟨T, hT⟩ : ∃ x, x = sm K C B c := ⟨_, rfl⟩
  obtain ⟨zz, hzz⟩ : ∃ x, x = ByteArray.size := ⟨_, rfl⟩
  obtain ⟨xe, hxe⟩ : ∃ x, x = err := ⟨_, rfl⟩
  obtain ⟨xl, hxl⟩ : ∃ x, x = ln := ⟨_, rfl⟩
  obtain ⟨x0, hx0⟩ : ∃ x, x = b0 := ⟨_, rfl⟩
  obtain ⟨x1, hx1⟩ : ∃ x, x = b1 := ⟨_, rfl⟩
  obtain ⟨xw, hxw⟩ : ∃ x, x = wn := ⟨_, rfl⟩
  obtain ⟨xs, hxs⟩ : ∃ x, x = sp := ⟨_, rfl⟩
  obtain ⟨xb, hxb⟩ : ∃ x, x = bdy := ⟨_, rfl⟩
  obtain ⟨xc, hxc⟩ : ∃ x, x = castI := ⟨_, rfl⟩
  obtain ⟨xh, hxh⟩ : ∃ x, x = hr := ⟨_, rfl⟩
  obtain ⟨xa, hxa⟩ : ∃ x, x = asks := ⟨_, rfl⟩
  rw [← hO]
  try rw [← hT]
  try rw [← hzz]
  try rw [← hxe]
  try rw [← hxl]
  try rw [← hx0]
  try rw [← hx1]
  try rw [← hxw]
  try rw [← hxs]
  try rw [← hxb]
  try rw [← hxc]
  try rw [← hxh]
  try rw [← hxa]
  obtain ⟨ar, cmp, neg, cv, mx, mn, nt, ite, beq, scmp, cat, sub, byte, ssz, of, nat, nadd, nsub, sel, inb, inc, le, ne0, nneg, eqn, room⟩ := O
  cbv
  refine ⟨{i : Nat // i ≤ n}, fun i => [(6, I (xc i.1)), (5, St (T i.1)), (0, .rs 4 n (evC K C U B)), (1, I c)], fun _ => [], fun i => n - i.1, ⟨0, by omega⟩, fun i => by cbv, ?_, by cbv, fun i => ?_⟩
  · subst hxc hT; exact ⟨rfl, rfl, rfl, rfl, trivial⟩
  obtain ⟨i, hi⟩ := i
  cbv
  have hs1 : (T i).size ≤ 20000 * i := by rw [hT]; exact sm_size hB i hi
  refine ⟨fun h1 => ?_, fun h1 => ?_⟩
  · have hlt : i < n := by
      obtain ⟨rfl, rfl, rfl, rfl, rfl, rfl, rfl, rfl, rfl, rfl, rfl, rfl, rfl, rfl, rfl, rfl, rfl, rfl, rfl, rfl, rfl, rfl, rfl, rfl, rfl, rfl⟩ := leaf_eq hO
      clear hO
      rw [hxc] at h1; simpa [s_lss, s_castI, s_of] using h1
    refine ⟨K, C, U, B, n, i, c, rfl, by omega, hlt, ?_⟩
    cbv
    obtain ⟨rfl, rfl, rfl, rfl, rfl, rfl, rfl, rfl, rfl, rfl, rfl, rfl, rfl, rfl, rfl, rfl, rfl, rfl, rfl, rfl, rfl, rfl, rfl, rfl, rfl, rfl⟩ := leaf_eq hO
    clear hO
    have hb1 := hB i hlt
    have hTs : T (i + 1) = if xh K C c i = true then T i ++ B i else T i := by rw [hT, hxh]; rfl
    simp (disch := omega) only [s_of, s_nat, s_nadd, s_nsub, s_ssz, s_lss, s_leq, s_gtr, s_geq, s_eql, s_neq, s_not, s_ite, s_beq, s_inb, s_inc, s_le, s_eqn, s_room, s_ne0, s_nneg, s_mx, s_mn, s_cat, s_subs, s_byte, d_true, d_false, Bool.not_eq_true', Bool.not_eq_false', hxc, s_castI, Int.toNat_natCast, s_add]
    refine ⟨fun h2 => ⟨⟨by omega, by omega⟩, ⟨by omega, ⟨i + 1, by omega⟩, ⟨congrArg (fun x => I x) (by show _ = ((i + 1 : Nat) : Int); omega), ?_, rfl, rfl, trivial⟩, trivial, by simp only; omega⟩⟩,
      fun h2 => ⟨⟨i + 1, by omega⟩, ⟨congrArg (fun x => I x) (by show _ = ((i + 1 : Nat) : Int); omega), ?_, rfl, rfl, trivial⟩, trivial, by simp only; omega⟩⟩
    · show St (T i ++ B i) = St (T (i + 1)); rw [hTs, if_pos h2]
    · show St (T i) = St (T (i + 1)); rw [hTs, if_neg (by simp [h2])]
  · skip
    obtain ⟨rfl, rfl, rfl, rfl, rfl, rfl, rfl, rfl, rfl, rfl, rfl, rfl, rfl, rfl, rfl, rfl, rfl, rfl, rfl, rfl, rfl, rfl, rfl, rfl, rfl, rfl⟩ := leaf_eq hO
    clear hO
    have : i = n := by
      rw [hxc] at h1
      have : ¬ i < n := by simpa [s_lss, s_castI, s_of] using h1
      omega
    subst this; rfl
def IsAll (S : ByteArray) (r : SV) : Prop := ∃ get x y, r = .t [.rs 3 (nf S) get, x, y] ∧ ∀ j, j < nf S → get j = frC S j
theorem vc44 (S : ByteArray) (hS : S.size ≤ 3000000) :
    runF std tab noΓ (ΔR std ByteArray.size err ln b0 b1 wn sp bdy castI hr asks) 2 44 [St S] [] (fin std (IsAll S)) := by
  obtain ⟨O, hO⟩ : ∃ O, O = std := ⟨_, rfl⟩
  obtain ⟨P, hP⟩ : ∃ x, x = IsAll S := ⟨_, rfl⟩
  obtain ⟨zz, hzz⟩ : ∃ x, x = ByteArray.size := ⟨_, rfl⟩
  obtain ⟨xe, hxe⟩ : ∃ x, x = err := ⟨_, rfl⟩
  obtain ⟨xl, hxl⟩ : ∃ x, x = ln := ⟨_, rfl⟩
  obtain ⟨x0, hx0⟩ : ∃ x, x = b0 := ⟨_, rfl⟩
  obtain ⟨x1, hx1⟩ : ∃ x, x = b1 := ⟨_, rfl⟩
  obtain ⟨xw, hxw⟩ : ∃ x, x = wn := ⟨_, rfl⟩
  obtain ⟨xs, hxs⟩ : ∃ x, x = sp := ⟨_, rfl⟩
  obtain ⟨xb, hxb⟩ : ∃ x, x = bdy := ⟨_, rfl⟩
  obtain ⟨xc, hxc⟩ : ∃ x, x = castI := ⟨_, rfl⟩
  obtain ⟨xh, hxh⟩ : ∃ x, x = hr := ⟨_, rfl⟩
  obtain ⟨xa, hxa⟩ : ∃ x, x = asks := ⟨_, rfl⟩
  rw [← hO]
  try rw [← hP]
  try rw [← hzz]
  try rw [← hxe]
  try rw [← hxl]
  try rw [← hx0]
  try rw [← hx1]
  try rw [← hxw]
  try rw [← hxs]
  try rw [← hxb]
  try rw [← hxc]
  try rw [← hxh]
  try rw [← hxa]
  obtain ⟨ar, cmp, neg, cv, mx, mn, nt, ite, beq, scmp, cat, sub, byte, ssz, of, nat, nadd, nsub, sel, inb, inc, le, ne0, nneg, eqn, room⟩ := O
  cbv
  obtain ⟨xf, hxf⟩ : ∃ f, f = frC := ⟨_, rfl⟩
  obtain ⟨R, hR⟩ : ∃ f, f = rst S := ⟨_, rfl⟩
  obtain ⟨m, hm⟩ : ∃ m, m = nf S := ⟨_, rfl⟩
  refine ⟨{i : Nat // i ≤ m}, fun i => [(0, St (R i.1)), (5, .o 1 i.1)], fun i => [.gone, .row 64 3 i.1 (xf S) i.1], fun i => m - i.1, ⟨0, by omega⟩, fun i => by cbv, ?_, ?_, fun i => ?_⟩
  · subst hR; exact ⟨rfl, rfl, trivial⟩
  · exact ⟨trivial, ⟨rfl, rfl, rfl, rfl, fun j hj => absurd hj (Nat.not_lt_zero j)⟩, trivial⟩
  obtain ⟨i, hi⟩ := i
  cbv
  obtain ⟨rfl, rfl, rfl, rfl, rfl, rfl, rfl, rfl, rfl, rfl, rfl, rfl, rfl, rfl, rfl, rfl, rfl, rfl, rfl, rfl, rfl, rfl, rfl, rfl, rfl, rfl⟩ := leaf_eq hO
  clear hO
  have hri := rst_size S (i := i) (by omega)
  have hnm := nf_le S
  have fin : ¬ xe (R i) = 0 → ∀ x y, P (.t [.rs 3 i (xf S), x, y]) := by
    intro he x y
    have him : i = m := by
      rcases Nat.lt_or_ge i m with h | h
      · rw [hm] at h; rw [hxe, hR] at he; exact absurd (nf_ok S h) he
      · omega
    rw [hP, him, hm, hxf]
    exact ⟨_, _, _, rfl, fun j _ => rfl⟩
  refine ⟨by rw [hzz, hR]; show (rst S i).size ≤ 4611686018427387904; omega, fun he => ⟨fun hx => absurd hx (by simp [s_eql]), fun _ => ⟨fun hx => absurd hx (by simp [s_neq]), fun _ => ⟨rfl, by simp only [s_room, s_nadd, maxLen]; omega, ?_⟩⟩⟩, fun he => ⟨fun _ => ⟨⟨rfl, trivial⟩, fin he _ _⟩, fun _ => ⟨fun _ => ⟨⟨rfl, trivial⟩, fin he _ _⟩, fun hx => absurd hx (by simp only [s_neq, d_false]; exact fun h => h he)⟩⟩⟩
  have he' : err (rst S i) = 0 := by rw [hxe, hR] at he; exact he
  have him : i < m := by
    rcases Nat.lt_or_ge i m with h | h
    · exact h
    · have : i = m := by omega
      rw [this, hm] at he'
      exact absurd he' (nf_end S)
  have hlb := ln_bd (rst S i)
  have hz := err_zero he'
  have hstp : stp (rst S i) = 4 + (ln (rst S i)).toNat := rfl
  have hst : std.ar .add .i64 4 (xl (R i)) = ((stp (rst S i) : Nat) : Int) := by rw [hxl, hR, s_add (by omega) (by omega), hstp]; omega
  refine ⟨by show std.inc (std.ar .add .i64 4 (xl (R i))) (std.of (std.ssize (R i))); rw [hst, hR]; simp only [s_inc, s_of, s_ssz]; omega, ⟨i + 1, by omega⟩, ⟨congrArg (fun x => St x) ?_, rfl, trivial⟩, ⟨trivial, ⟨rfl, rfl, rfl, rfl, ?_⟩, trivial⟩, by simp only; omega⟩
  · show std.sub (R i) (std.ar .add .i64 4 (xl (R i))) (std.of (std.ssize (R i))) = R (i + 1)
    rw [hst, hR]; simp only [s_subs, s_of, s_ssz, Int.toNat_natCast]; rfl
  · refine app_chunk (sz := 3) rfl (fun j _ => rfl) ?_
    subst hxf hx0 hx1 hxb hR
    rfl
def ΔR2 (ci : Nat → Int) (sm : (Nat → Int) → (Nat → Int) → (Nat → ByteArray) → Int → Nat → ByteArray) (nf : ByteArray → Nat) (xf : ByteArray → Nat → List SV) : Contracts := fun f => match f with
  | 45 => some (Spec.con fun args κ => ∃ K C U B n c, args = [.rs 4 n (evC K C U B), I c] ∧ n ≤ 150 ∧ (∀ i, i < n → (B i).size ≤ 20000) ∧ κ (St (sm K C B c n)))
  | 44 => some (Spec.con fun args κ => ∃ S, args = [St S] ∧ S.size ≤ 3000000 ∧ κ (.t [.rs 3 (nf S) (xf S), .any, .any]))
  | _ => none
theorem ΔR2_ok : ContractsOk Try.prog (ΔR2 castI sm nf frC) := by
  constructor
  intro f m hm
  unfold ΔR2 at hm
  split at hm
  · cases hm
    refine contract_ok2 (runF_ok tab_ok noΓ_ok ΔR_ok 2) ?_
    rintro args κ ⟨K, C, U, B, n, c, rfl, hn0, hB, hκ⟩
    exact ⟨rfl, _, _, vc45 K C U B n hn0 hB c, fun r E u h hr => by subst h; exact hr, hκ⟩
  · cases hm
    refine contract_ok2 (runF_ok tab_ok noΓ_ok ΔR_ok 2) ?_
    rintro args κ ⟨S, rfl, hS, hκ⟩
    refine ⟨rfl, _, _, vc44 S hS, fun r E u h hr => ?_, hκ⟩
    obtain ⟨get, x, y, rfl, hg⟩ := h
    simp only [rel, relL] at hr ⊢
    obtain ⟨us, rfl, u1, us1, rfl, h1, u2, us2, rfl, _, u3, us3, rfl, _, rfl⟩ := hr
    exact ⟨_, rfl, u1, _, rfl, rel_rs_congr hg h1, u2, _, rfl, trivial, u3, _, rfl, trivial, rfl⟩
  · cases hm
theorem vc24 (K C U : Nat → Int) (B : Nat → ByteArray) (n : Nat) (hn0 : n ≤ 150) (hB : ∀ i, i < n → (B i).size ≤ 20000) (c : Int) :
    runF std tab noΓ (ΔR2 castI sm nf frC) 2 24 [.rs 4 n (evC K C U B), I c] [] (fin std (IsFr (sm K C B c n))) := by
  obtain ⟨O, hO⟩ : ∃ O, O = std := ⟨_, rfl⟩
  obtain ⟨P, hP⟩ : ∃ x, x = IsFr (sm K C B c n) := ⟨_, rfl⟩
  obtain ⟨xc, hxc⟩ : ∃ x, x = castI := ⟨_, rfl⟩
  obtain ⟨T, hT⟩ : ∃ x, x = sm := ⟨_, rfl⟩
  obtain ⟨xN, hxN⟩ : ∃ x, x = nf := ⟨_, rfl⟩
  obtain ⟨xf, hxf⟩ : ∃ x, x = frC := ⟨_, rfl⟩
  rw [← hO]
  try rw [← hP]
  try rw [← hxc]
  try rw [← hT]
  try rw [← hxN]
  try rw [← hxf]
  obtain ⟨ar, cmp, neg, cv, mx, mn, nt, ite, beq, scmp, cat, sub, byte, ssz, of, nat, nadd, nsub, sel, inb, inc, le, ne0, nneg, eqn, room⟩ := O
  cbv
  refine ⟨K, C, U, B, n, c, rfl, hn0, hB, ?_⟩
  cbv
  refine ⟨T K C B c n, rfl, ?_, ?_⟩
  · rw [hT]; have := sm_size (K := K) (C := C) (c := c) hB n (Nat.le_refl _); omega
  cbv
  subst hP hT hxN hxf
  exact ⟨_, rfl, fun j _ => rfl⟩
end Go.Sx.Sw
