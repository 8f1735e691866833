/- Swap: what the smallest functions come to: kinds, heads, frames. -/
import Derived.Test.YtijnahgehahokaaBnWalk
import Derived.Test.YtijnahgehahokaaSwSpec
set_option linter.unusedVariables false
set_option linter.unusedSimpArgs false
namespace Go.Sx.Sw
open Go.Sx Go.Proofs Go.Sx.Bn
set_option maxRecDepth 100000
abbrev St (b : ByteArray) : SV := .v (.string b)
abbrev Bo (b : Bool) : SV := .v (.bool b)
theorem vc61 (k : Int) : runF std tab noΓ noΔ 2 61 [I k] [] (fin std fun r => r = Bo (asks k)) := by
  obtain ⟨O, hO⟩ : ∃ O, O = std := ⟨_, rfl⟩
  obtain ⟨x, hx⟩ : ∃ x, x = asks k := ⟨_, rfl⟩
  rw [← hO, ← hx]
  cbv
  subst hO
  simp only [std, SV.v.injEq, Value.bool.injEq, hx, asks, beq_iff_eq, beq_eq_false_iff_ne]
  (repeat' (first | (apply And.intro) | (intro h))) <;> simp_all
theorem vc62 (k : Int) : runF std tab noΓ noΔ 2 62 [I k] [] (fin std fun r => r = Bo (asks k)) := by
  obtain ⟨O, hO⟩ : ∃ O, O = std := ⟨_, rfl⟩
  obtain ⟨x, hx⟩ : ∃ x, x = asks k := ⟨_, rfl⟩
  rw [← hO, ← hx]
  cbv
  subst hO
  simp only [std, SV.v.injEq, Value.bool.injEq, hx, asks]
  refine ⟨⟨fun _ => trivial, trivial⟩, ⟨fun _ => trivial, trivial⟩, ⟨fun _ => trivial, trivial⟩, ⟨fun _ => trivial, trivial⟩, ?_⟩
  cases k == 2 <;> cases k == 3 <;> cases k == 4 <;> cases k == 6 <;> cases k == 7 <;> rfl
theorem vc72 (k : Int) : runF std tab noΓ noΔ 2 72 [I k] [] (fin std fun r => r = Bo (kn k)) := by
  obtain ⟨O, hO⟩ : ∃ O, O = std := ⟨_, rfl⟩
  obtain ⟨x, hx⟩ : ∃ x, x = kn k := ⟨_, rfl⟩
  rw [← hO, ← hx]
  cbv
  subst hO
  simp only [std, SV.v.injEq, Value.bool.injEq, hx, kn]
  refine ⟨⟨fun _ => trivial, trivial⟩, ?_⟩
  by_cases h : k ≥ 1 <;> by_cases h2 : k ≤ 9 <;> simp [h, h2]
def Γk (kn ak : Int → Bool) : Known := fun f a => match f, a with
  | 72, [.v (.int .i64 k)] => some (.bool (kn k), True)
  | 61, [.v (.int .i64 k)] => some (.bool (ak k), True)
  | 62, [.v (.int .i64 k)] => some (.bool (ak k), True)
  | _, _ => none
theorem Γk_ok : KnownOk Try.prog (Γk kn asks) := by
  refine known_mk (runF_ok tab_ok noΓ_ok noΔ_ok 2) fun f args x sc h => ?_
  unfold Γk at h
  split at h
  · simp only [Option.some.injEq, Prod.mk.injEq] at h
    obtain ⟨rfl, rfl⟩ := h
    exact ⟨⟨_, Try.func72, rfl, rfl⟩, fun _ => vc72 _⟩
  · simp only [Option.some.injEq, Prod.mk.injEq] at h
    obtain ⟨rfl, rfl⟩ := h
    exact ⟨⟨_, Try.func61, rfl, rfl⟩, fun _ => vc61 _⟩
  · simp only [Option.some.injEq, Prod.mk.injEq] at h
    obtain ⟨rfl, rfl⟩ := h
    exact ⟨⟨_, Try.func62, rfl, rfl⟩, fun _ => vc62 _⟩
  · cases h
def Hd (b : ByteArray) : SV := if herr b = 0 then .t [I (bt b 0), I (bt b 1), I (ln b), I 0] else .t [I 0, I 0, I 0, I (herr b)]
theorem vc67 (b : ByteArray) : runF std tab (Γk kn asks) noΔ 2 67 [St b] [] (fin std fun r => r = Hd b) := by
  obtain ⟨O, hO⟩ : ∃ O, O = std := ⟨_, rfl⟩
  obtain ⟨x, hx⟩ : ∃ x, x = Hd b := ⟨_, rfl⟩
  obtain ⟨k, hk⟩ : ∃ k, k = kn := ⟨_, rfl⟩
  obtain ⟨a, ha⟩ : ∃ k, k = asks := ⟨_, rfl⟩
  rw [← hO, ← hx, ← hk, ← ha]
  obtain ⟨ar, cmp, neg, cv, mx, mn, nt, ite, beq, scmp, cat, sub, byte, ssz, of, nat, nadd, nsub, sel, inb, inc, le, ne0, nneg, eqn, room⟩ := O
  cbv
  obtain ⟨rfl, rfl, rfl, rfl, rfl, rfl, rfl, rfl, rfl, rfl, rfl, rfl, rfl, rfl, rfl, rfl, rfl, rfl, rfl, rfl, rfl, rfl, rfl, rfl, rfl, rfl⟩ := leaf_eq hO
  clear hO
  have h0 := bt_bd b 0
  have h1 := bt_bd b 1
  have h2 := bt_bd b 2
  have h3 := bt_bd b 3
  have bl := two_bytes (bt b 2) (bt b 3) h2 h3
  have hz : Int.toNat 0 = 0 := rfl
  have ho : Int.toNat 1 = 1 := rfl
  have ht : Int.toNat 2 = 2 := rfl
  have hd : Int.toNat 3 = 3 := rfl
  simp (disch := omega) only [s_of, s_nat, s_nadd, s_nsub, s_ssz, s_lss, s_leq, s_gtr, s_geq, s_eql, s_neq, s_not, s_ite, s_inb, s_inc, s_le, s_eqn, s_room, s_ne0, s_nneg, s_mx, s_mn, s_cat, s_subs, s_byte, d_true, d_false, Bool.not_eq_true', Bool.not_eq_false', hz, ho, ht, hd, s_cv, bl]
  subst hx hk
  rw [Hd, herr, ln]
  (repeat' (first | (apply And.intro) | (intro _))) <;> first | trivial | omega | (simp [*]; done)
theorem vc67' (b : ByteArray) : runF std tab (Γk kn asks) noΔ 2 67 [St b] [] (fin std fun r => r = if herr b = 0 then .t [I (bt b 0), I (bt b 1), I (ln b), I 0] else .t [I 0, I 0, I 0, I (herr b)]) := vc67 b
/-- A head; then a frame. -/
def ΔH (he l k0 k1 : ByteArray → Int) : Contracts := fun f => match f with
  | 67 => some (Spec.con fun args κ => match args with | [.v (.string b)] => Imp (he b = 0) (κ (.t [I (k0 b), I (k1 b), I (l b), I 0])) ∧ Imp (he b ≠ 0) (κ (.t [I 0, I 0, I 0, I (he b)])) | _ => False)
  | _ => none
def b0 (b : ByteArray) : Int := bt b 0
def b1 (b : ByteArray) : Int := bt b 1
theorem ΔH_ok : ContractsOk Try.prog (ΔH herr ln b0 b1) := by
  constructor
  intro f m hm
  unfold ΔH at hm
  split at hm
  · cases hm
    refine contract_ok2 (runF_ok tab_ok Γk_ok noΔ_ok 2) ?_
    intro args κ h
    split at h
    · rename_i b
      refine ⟨rfl, _, Hd b, vc67 b, fun r E u h hr => by rw [← h]; exact hr, ?_⟩
      unfold Hd
      split
      · rename_i he; exact h.1 he
      · rename_i he; exact h.2 he
    · exact h.elim
  · cases hm
def Tk (b : ByteArray) : SV := if err b = 0 then .t [.a [I (b0 b), I (b1 b), St (bdy b)], I (4 + ln b), I 0] else .t [.a [I 0, I 0, St ⟨#[]⟩], I 0, I (err b)]
theorem vc57 (b : ByteArray) (hb : b.size ≤ 4611686018427387904) : runF std tab noΓ (ΔH herr ln b0 b1) 2 57 [St b] [] (fin std fun r => r = Tk b) := by
  obtain ⟨O, hO⟩ : ∃ O, O = std := ⟨_, rfl⟩
  obtain ⟨x, hx⟩ : ∃ x, x = Tk b := ⟨_, rfl⟩
  obtain ⟨he, hhe⟩ : ∃ x, x = herr := ⟨_, rfl⟩
  obtain ⟨l, hl⟩ : ∃ x, x = ln := ⟨_, rfl⟩
  obtain ⟨k0, hk0⟩ : ∃ x, x = b0 := ⟨_, rfl⟩
  obtain ⟨k1, hk1⟩ : ∃ x, x = b1 := ⟨_, rfl⟩
  rw [← hO]
  try rw [← hx]
  try rw [← hhe]
  try rw [← hl]
  try rw [← hk0]
  try rw [← hk1]
  obtain ⟨ar, cmp, neg, cv, mx, mn, nt, ite, beq, scmp, cat, sub, byte, ssz, of, nat, nadd, nsub, sel, inb, inc, le, ne0, nneg, eqn, room⟩ := O
  cbv
  obtain ⟨rfl, rfl, rfl, rfl, rfl, rfl, rfl, rfl, rfl, rfl, rfl, rfl, rfl, rfl, rfl, rfl, rfl, rfl, rfl, rfl, rfl, rfl, rfl, rfl, rfl, rfl⟩ := leaf_eq hO
  clear hO
  have hlb := ln_bd b
  have hl' : l b = ln b := by rw [hl]
  simp (disch := (first | omega | (rw [hl']; omega))) only [s_of, s_nat, s_nadd, s_nsub, s_ssz, s_lss, s_leq, s_gtr, s_geq, s_eql, s_neq, s_not, s_ite, s_beq, s_inb, s_inc, s_le, s_eqn, s_room, s_ne0, s_nneg, s_mx, s_mn, s_cat, s_subs, s_byte, d_true, d_false, Bool.not_eq_true', Bool.not_eq_false', s_sub, s_add]
  subst hx hhe hl hk0 hk1
  have e4 : Int.toNat 4 = 4 := rfl
  have eN : (4 + ln b).toNat = 4 + (ln b).toNat := by omega
  refine ⟨fun h => ⟨fun h' => absurd rfl h', fun _ => ⟨fun h2 => ?_, fun h2 => ⟨⟨⟨by omega, by omega⟩, by omega, by omega⟩, ?_⟩⟩⟩, fun h => ⟨fun _ => ?_, fun h' => absurd h h'⟩⟩
  · have e : err b = 2 := by rw [err, if_neg (by simp [h]), if_pos h2]
    rw [Tk, e]; rfl
  · have e : err b = 0 := by rw [err, if_neg (by simp [h]), if_neg h2]
    rw [Tk, if_pos e, bdy, e4, eN]
  · have e : err b = herr b := by rw [err, if_pos h]
    rw [Tk, e, if_neg h]
/-- A frame; by the document. -/
def Rk (b : ByteArray) : SV := if err b = 0 then .t [.a [I (b0 b), I (b1 b), St (bdy b)], I (ln b), I 0] else .t [.a [I 0, I 0, St ⟨#[]⟩], I (wn b), I (err b)]
theorem vc58 (b : ByteArray) (hb : b.size ≤ 4611686018427387904) : runF std tab noΓ noΔ 2 58 [St b] [] (fin std fun r => r = Rk b) := by
  obtain ⟨O, hO⟩ : ∃ O, O = std := ⟨_, rfl⟩
  obtain ⟨x, hx⟩ : ∃ x, x = Rk b := ⟨_, rfl⟩
  rw [← hO]
  try rw [← hx]
  obtain ⟨ar, cmp, neg, cv, mx, mn, nt, ite, beq, scmp, cat, sub, byte, ssz, of, nat, nadd, nsub, sel, inb, inc, le, ne0, nneg, eqn, room⟩ := O
  cbv
  obtain ⟨rfl, rfl, rfl, rfl, rfl, rfl, rfl, rfl, rfl, rfl, rfl, rfl, rfl, rfl, rfl, rfl, rfl, rfl, rfl, rfl, rfl, rfl, rfl, rfl, rfl, rfl⟩ := leaf_eq hO
  clear hO
  have h0 := bt_bd b 0
  have h1 := bt_bd b 1
  have h2 := bt_bd b 2
  have h3 := bt_bd b 3
  have hz : Int.toNat 0 = 0 := rfl
  have ho : Int.toNat 1 = 1 := rfl
  have ht : Int.toNat 2 = 2 := rfl
  have hd : Int.toNat 3 = 3 := rfl
  simp (disch := omega) only [s_of, s_nat, s_nadd, s_nsub, s_ssz, s_lss, s_leq, s_gtr, s_geq, s_eql, s_neq, s_not, s_ite, s_beq, s_inb, s_inc, s_le, s_eqn, s_room, s_ne0, s_nneg, s_mx, s_mn, s_cat, s_subs, s_byte, d_true, d_false, Bool.not_eq_true', Bool.not_eq_false', hz, ho, ht, hd, s_cv, s_mul, s_add]
  have hlb := ln_bd b
  have hll : bt b 2 * 256 + bt b 3 = ln b := rfl
  have e4 : Int.toNat 4 = 4 := rfl
  have eN : (4 + ln b).toNat = 4 + (ln b).toNat := by omega
  rw [hll]
  have hkn : ∀ v : Bool, (if bt b 0 < 1 then true else decide (bt b 0 > 9)) = v → kn (bt b 0) = !v := by
    intro v hv
    rw [← hv, kn]
    by_cases c1 : bt b 0 < 1
    · rw [if_pos c1]; simp; omega
    · rw [if_neg c1]
      by_cases c2 : bt b 0 > 9
      · simp [c2]
      · simp [c2]; omega
  subst hx
  refine ⟨fun c1 => ?_, fun c1 => ⟨⟨by omega, by omega⟩, ⟨fun _ => ⟨⟨by omega, by omega⟩, trivial⟩, trivial⟩, fun c2 => ?_, fun c2 => ⟨⟨⟨by omega, by omega⟩, ⟨by omega, by omega⟩, trivial⟩, fun c3 => ?_, fun c3 => ⟨fun c4 => ?_, fun c4 => ⟨⟨⟨by omega, by omega⟩, ⟨by omega, by omega⟩, ⟨⟨by omega, by omega⟩, by omega, by omega⟩, trivial⟩, ?_⟩⟩⟩⟩⟩
  · obtain ⟨e1, e2⟩ := ec1 c1
    rw [Rk, e1, e2]; rfl
  · obtain ⟨e1, e2⟩ := ec2 c1 (hkn true c2)
    rw [Rk, e1, e2]; rfl
  · obtain ⟨e1, e2⟩ := ec3 c1 (hkn false c2) c3
    rw [Rk, e1, e2]; rfl
  · obtain ⟨e1, e2⟩ := ec4 c1 (hkn false c2) c3 c4
    rw [Rk, e1, e2]; rfl
  · have e1 := ec5 c1 (hkn false c2) c3 c4
    rw [Rk, if_pos e1, bdy, e4, eN]; rfl
/-- Frames. -/
def sp (b : ByteArray) : Int := 4 + ln b
def ΔT (zz : ByteArray → Nat) (er l k0 k1 w sp : ByteArray → Int) (bd : ByteArray → ByteArray) : Contracts := fun f => match f with
  | 57 => some (Spec.con fun args κ => match args with | [.v (.string b)] => zz b ≤ 4611686018427387904 ∧ Imp (er b = 0) (κ (.t [.a [I (k0 b), I (k1 b), St (bd b)], I (sp b), I 0])) ∧ Imp (er b ≠ 0) (κ (.t [.a [I 0, I 0, St ⟨#[]⟩], I 0, I (er b)])) | _ => False)
  | 58 => some (Spec.con fun args κ => match args with | [.v (.string b)] => zz b ≤ 4611686018427387904 ∧ Imp (er b = 0) (κ (.t [.a [I (k0 b), I (k1 b), St (bd b)], I (l b), I 0])) ∧ Imp (er b ≠ 0) (κ (.t [.a [I 0, I 0, St ⟨#[]⟩], I (w b), I (er b)])) | _ => False)
  | _ => none
theorem ΔT_ok : ContractsOk Try.prog (ΔT ByteArray.size err ln b0 b1 wn sp bdy) := by
  constructor
  intro f m hm
  unfold ΔT at hm
  split at hm
  · cases hm
    refine contract_ok2 (runF_ok tab_ok noΓ_ok ΔH_ok 2) ?_
    intro args κ h
    split at h
    · rename_i b
      refine ⟨rfl, _, Tk b, vc57 b h.1, fun r E u h hr => by rw [← h]; exact hr, ?_⟩
      unfold Tk
      split
      · rename_i he; exact h.2.1 he
      · rename_i he; exact h.2.2 he
    · exact h.elim
  · cases hm
    refine contract_ok2 (runF_ok tab_ok noΓ_ok noΔ_ok 2) ?_
    intro args κ h
    split at h
    · rename_i b
      refine ⟨rfl, _, Rk b, vc58 b h.1, fun r E u h hr => by rw [← h]; exact hr, ?_⟩
      unfold Rk
      split
      · rename_i he; exact h.2.1 he
      · rename_i he; exact h.2.2 he
    · exact h.elim
  · cases hm
end Go.Sx.Sw
