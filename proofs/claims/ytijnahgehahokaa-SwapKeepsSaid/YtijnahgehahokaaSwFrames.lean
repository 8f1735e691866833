/- Swap: a connection's frames. -/
import Derived.Test.YtijnahgehahokaaSwHeard
import Derived.Test.YtijnahgehahokaaSxBld
set_option linter.unusedVariables false
set_option linter.unusedSimpArgs false
namespace Go.Sx.Sw
open Go.Sx Go.Proofs Go.Sx.Bn
set_option maxRecDepth 100000
set_option maxHeartbeats 4000000
abbrev FN := (Nat → Int) → (Nat → Int) → Int → Nat → Nat
def ΔS (O : Leaf) (zz : ByteArray → Nat) (er l k0 k1 w sp : ByteArray → Int) (bd : ByteArray → ByteArray) (ci : Nat → Int) (hN : FN) (hG : (Nat → Int) → (Nat → Int) → Int → Nat → Nat → Nat) : Contracts := fun f => match f with
  | 53 => some (Spec.con fun args κ => ∃ K C U B n c, args = [.rs 4 n (evC K C U B), I c] ∧ n ≤ 1000000 ∧ κ (.rs 1 (hN K C c n) fun j => [I (ci (hG K C c n j))]))
  | 57 => ΔT zz er l k0 k1 w sp bd 57
  | 58 => ΔT zz er l k0 k1 w sp bd 58
  | 55 => Bld.conB O 55
  | 66 => Bld.conB O 66
  | _ => none
theorem ΔS_ok : ContractsOk Try.prog (ΔS std ByteArray.size err ln b0 b1 wn sp bdy castI hn hg) := by
  constructor
  intro f m hm
  unfold ΔS at hm
  split at hm
  · cases hm
    refine contract_ok2 (runF_ok tab_ok noΓ_ok noΔ_ok 2) ?_
    rintro args κ ⟨K, C, U, B, n, c, rfl, hn0, hκ⟩
    exact ⟨rfl, _, _, vc53 K C U B n hn0 c, fun r E u h hr => by obtain ⟨get, rfl, hg⟩ := h; exact rel_rs_congr hg hr, hκ⟩
  · exact ΔT_ok.ok _ _ hm
  · exact ΔT_ok.ok _ _ hm
  · exact Bld.conB_ok.ok _ _ hm
  · exact Bld.conB_ok.ok _ _ hm
  · cases hm
/-- The frames of bytes. -/
def frC (S : ByteArray) (j : Nat) : List SV := [I (fk S j), I (ff S j), St (fb S j)]
def IsFr (S : ByteArray) (r : SV) : Prop := ∃ get, r = .rs 3 (nf S) get ∧ ∀ j, j < nf S → get j = frC S j
def bA (S : ByteArray) (j : Nat) : List SV := [.v (.int .u8 (bt S j))]
theorem bytesG_eq (b : ByteArray) (j : Nat) : bytesG std b j = bA b j := by simp [bytesG, bA, s_byte, s_of]
theorem app_bytes (a b : ByteArray) (j : Nat) (hj : j < a.size + b.size) : app a.size (bA a) (bytesG std b) j = bA (a ++ b) j := by
  unfold app
  by_cases h : j < a.size
  · rw [Nat.blt_eq.mpr h]; simp only [cond_true, bA, bt, gb_append_left a b j h]
  · have hb : Nat.blt j a.size = false := by cases h' : Nat.blt j a.size with | false => rfl | true => exact absurd (Nat.blt_eq.mp h') h
    rw [hb]; simp only [cond_false, bytesG_eq, bA, bt, gb_append_right a b j (by omega)]
theorem vc23 (K C U : Nat → Int) (B : Nat → ByteArray) (n : Nat) (hn0 : n ≤ 150) (hB : ∀ i, i < n → (B i).size ≤ 20000) (c : Int) :
    runF std tab noΓ (ΔS std ByteArray.size err ln b0 b1 wn sp bdy castI hn hg) 5 23 [.rs 4 n (evC K C U B), I c] [] (fin std (IsFr (sm K C B c n))) := by
  obtain ⟨O, hO⟩ : ∃ O, O = std := ⟨_, rfl⟩
  obtain ⟨P, hP⟩ : ∃ x, x = IsFr (sm K C B c n) := ⟨_, rfl⟩
  obtain ⟨zz, hzz⟩ : ∃ x, x = ByteArray.size := ⟨_, rfl⟩
  obtain ⟨xe, hxe⟩ : ∃ x, x = err := ⟨_, rfl⟩
  obtain ⟨xl, hxl⟩ : ∃ x, x = ln := ⟨_, rfl⟩
  obtain ⟨x0, hx0⟩ : ∃ x, x = b0 := ⟨_, rfl⟩
  obtain ⟨x1, hx1⟩ : ∃ x, x = b1 := ⟨_, rfl⟩
  obtain ⟨xw, hxw⟩ : ∃ x, x = wn := ⟨_, rfl⟩
  obtain ⟨xs, hxs⟩ : ∃ x, x = sp := ⟨_, rfl⟩
  obtain ⟨xb, hxb⟩ : ∃ x, x = bdy := ⟨_, rfl⟩
  obtain ⟨xc, hxc⟩ : ∃ x, x = castI := ⟨_, rfl⟩
  obtain ⟨xN, hxN⟩ : ∃ x, x = hn := ⟨_, rfl⟩
  obtain ⟨xG, hxG⟩ : ∃ x, x = hg := ⟨_, rfl⟩
  rw [← hO]
  try rw [← hP]
  try rw [← hzz]
  try rw [← hxe]
  try rw [← hxl]
  try rw [← hx0]
  try rw [← hx1]
  try rw [← hxw]
  try rw [← hxs]
  try rw [← hxb]
  try rw [← hxc]
  try rw [← hxN]
  try rw [← hxG]
  obtain ⟨ar, cmp, neg, cv, mx, mn, nt, ite, beq, scmp, cat, sub, byte, ssz, of, nat, nadd, nsub, sel, inb, inc, le, ne0, nneg, eqn, room⟩ := O
  cbv
  refine ⟨K, C, U, B, n, c, rfl, by omega, ?_⟩
  cbv
  obtain ⟨T, hT⟩ : ∃ T, T = hs K C B c n := ⟨_, rfl⟩
  obtain ⟨bg, hbg⟩ : ∃ b, b = bA := ⟨_, rfl⟩
  obtain ⟨sf, hsf⟩ : ∃ f : Nat → SV, f = fun k => if k = 0 then .v (.pointer none) else .p 5 0 := ⟨_, rfl⟩
  have sf0 : sf 0 = .v (.pointer none) := by rw [hsf]; rfl
  have sf1 : ∀ k, sf (k + 1) = .p 5 0 := fun k => by rw [hsf]; simp
  have sfs : ∀ k, scope 7 (sf k) = true := fun k => by cases k with | zero => rw [sf0]; rfl | succ k => rw [sf1]; rfl
  have sfd : ∀ k, sf k = .v (.pointer none) ∨ sf k = .p 5 0 := fun k => by cases k with | zero => exact .inl sf0 | succ k => exact .inr (sf1 k)
  refine ⟨{k : Nat // k ≤ xN K C c n}, fun k => [(15, I (xc k.1)), (14, I (of (xN K C c n))), (13, .rs 1 (xN K C c n) fun j => [I (xc (xG K C c n j))]), (7, .p 5 0), (6, .p 4 0), (2, .p 3 0)],
    fun k => [.gone, .cells [.o 2 0] 53, .row 64 3 0 (fun _ => []) 0, .cells [.rs 4 n (evC K C U B)] 49, .cells [.rs 1 (xN K C c n) fun j => [I (xc (xG K C c n j))]] 22, .cells [sf k.1, .o 6 k.1] 112, .row 5 1 (ssz (T k.1)) (bg (T k.1)) k.1], fun k => xN K C c n - k.1, ⟨0, by omega⟩, fun k => ⟨?_, ?_, ?_⟩, ?_, ?_, fun k => ?_⟩
  · cbv
  · cbv
  · have := sfd k.1
    cbv
    rcases this with e | e <;> (rw [e]; try rfl)
  · subst hxc; exact ⟨rfl, rfl, rfl, rfl, rfl, rfl, trivial⟩
  · subst hT hbg
    exact ⟨trivial, ⟨rfl, rfl⟩, ⟨rfl, rfl, rfl, rfl, fun j _ => rfl⟩, ⟨rfl, rfl⟩, ⟨rfl, rfl⟩, ⟨by rw [sf0], rfl⟩, ⟨rfl, rfl, by obtain ⟨_, _, _, _, _, _, _, _, _, _, _, _, _, rfl, _⟩ := leaf_eq hO; rfl, rfl, fun j hj => absurd hj (Nat.not_lt_zero j)⟩, trivial⟩
  obtain ⟨k, hk⟩ := k
  cbv
  have hTk : ∀ k, k ≤ xN K C c n → (T k).size ≤ 20000 * k := fun k hk => by rw [hT]; rw [hxN] at hk; exact hs_size hB k hk
  have hNn : xN K C c n ≤ n := by rw [hxN]; exact hl_len K C c n
  refine ⟨fun h1 => ?_, fun h1 => ⟨?_, T k, ?_, ?_, ?_⟩⟩
  · skip
    obtain ⟨rfl, rfl, rfl, rfl, rfl, rfl, rfl, rfl, rfl, rfl, rfl, rfl, rfl, rfl, rfl, rfl, rfl, rfl, rfl, rfl, rfl, rfl, rfl, rfl, rfl, rfl⟩ := leaf_eq hO
    clear hO
    have hkk : std.nat (xc k) = k := by rw [hxc]; simp [s_nat, s_castI]
    have hkl : k < xN K C c n := by rw [hxc] at h1; simpa [s_lss, s_castI, s_of] using h1
    simp only [hkk]
    have hG : std.nat (xc (xG K C c n k)) = xG K C c n k := by rw [hxc]; simp [s_nat, s_castI]
    simp only [hG]
    have hg1 : xG K C c n k < n := by rw [hxG]; rw [hxN] at hkl; exact (hg_lt hkl).1
    have hs1 := hTk k hk
    have hb1 := hB _ hg1
    have hT1 : T (k + 1) = T k ++ B (xG K C c n k) := by rw [hT, hxG]; rfl
    have e1 : std.ar .add .i64 (xc k) 1 = xc (k + 1) := by rw [hxc]; simp (disch := omega) only [s_castI, s_add]; omega
    refine ⟨by rw [hxc]; simp only [s_inb, s_castI]; omega, by rw [hxc]; simp only [s_inb, s_castI]; omega, sfd k, rfl, by simp only [s_room, s_nadd, s_ssz, maxLen]; omega, ⟨k + 1, by omega⟩, ⟨congrArg (fun x => I x) e1, rfl, rfl, rfl, rfl, rfl, trivial⟩, ⟨trivial, ⟨rfl, rfl⟩, ⟨rfl, rfl, rfl, rfl, fun j _ => rfl⟩, ⟨rfl, rfl⟩, ⟨rfl, rfl⟩, ⟨by rw [sf1]; rfl, rfl⟩, ⟨rfl, rfl, ?_, rfl, ?_⟩, trivial⟩, by simp only; omega⟩
    · show (T k).size + (B _).size = (T (k + 1)).size
      rw [hT1, ByteArray.size_append]
    · intro j hj
      have hj' : j < (T k).size + (B (xG K C c n k)).size := hj
      show app (T k).size (bg (T k)) (bytesG std (B (xG K C c n k))) j = bg (T (k + 1)) j
      rw [hbg, hT1]; exact app_bytes _ _ j hj'
  · skip
    obtain ⟨rfl, rfl, rfl, rfl, rfl, rfl, rfl, rfl, rfl, rfl, rfl, rfl, rfl, rfl, rfl, rfl, rfl, rfl, rfl, rfl, rfl, rfl, rfl, rfl, rfl, rfl⟩ := leaf_eq hO
    clear hO
    rfl
  · skip
    obtain ⟨rfl, rfl, rfl, rfl, rfl, rfl, rfl, rfl, rfl, rfl, rfl, rfl, rfl, rfl, rfl, rfl, rfl, rfl, rfl, rfl, rfl, rfl, rfl, rfl, rfl, rfl⟩ := leaf_eq hO
    clear hO
    rfl
  · skip
    obtain ⟨rfl, rfl, rfl, rfl, rfl, rfl, rfl, rfl, rfl, rfl, rfl, rfl, rfl, rfl, rfl, rfl, rfl, rfl, rfl, rfl, rfl, rfl, rfl, rfl, rfl, rfl⟩ := leaf_eq hO
    clear hO
    intro j hj
    rw [hbg]; simp [bA, s_byte, s_of]
  have hkm : k = xN K C c n := by
    obtain ⟨rfl, rfl, rfl, rfl, rfl, rfl, rfl, rfl, rfl, rfl, rfl, rfl, rfl, rfl, rfl, rfl, rfl, rfl, rfl, rfl, rfl, rfl, rfl, rfl, rfl, rfl⟩ := leaf_eq hO
    clear hO
    rw [hxc] at h1
    have : ¬ k < xN K C c n := by simpa [s_lss, s_castI, s_of] using h1
    omega
  subst hkm
  clear h1
  cbv
  obtain ⟨S0, hS0⟩ : ∃ S0, S0 = T (xN K C c n) := ⟨_, rfl⟩
  obtain ⟨xf, hxf⟩ : ∃ f, f = frC := ⟨_, rfl⟩
  obtain ⟨ps, hps⟩ : ∃ f, f = pos := ⟨_, rfl⟩
  obtain ⟨m, hm⟩ : ∃ m, m = nf S0 := ⟨_, rfl⟩
  rw [← hS0]
  refine ⟨{i : Nat // i ≤ m}, fun i => [(4, I (xc (ps S0 i.1))), (0, St S0), (1, .fn 43 [] [.p 1 0])], fun i => [.gone, .cells [.o 2 i.1] 53, .row 64 3 i.1 (xf S0) i.1, .gone, .gone, .gone, .gone], fun i => m - i.1, ⟨0, by omega⟩, fun i => by cbv, ?_, ?_, fun i => ?_⟩
  · subst hxc hps; exact ⟨rfl, rfl, rfl, trivial⟩
  · exact ⟨trivial, ⟨rfl, rfl⟩, ⟨rfl, rfl, rfl, rfl, fun j hj => absurd hj (Nat.not_lt_zero j)⟩, trivial, trivial, trivial, trivial, trivial⟩
  obtain ⟨i, hi⟩ := i
  cbv
  obtain ⟨rfl, rfl, rfl, rfl, rfl, rfl, rfl, rfl, rfl, rfl, rfl, rfl, rfl, rfl, rfl, rfl, rfl, rfl, rfl, rfl, rfl, rfl, rfl, rfl, rfl, rfl⟩ := leaf_eq hO
  clear hO
  have hS1 : S0 = sm K C B c n := by rw [hS0, hT, hxN]; exact hs_all K C B c n
  have hSz : S0.size ≤ 3000000 := by have := sm_size (K := K) (C := C) (c := c) hB n (Nat.le_refl _); rw [hS1]; omega
  obtain ⟨hp1, hp2, _⟩ := rst_eq S0 i (by omega)
  have hrs : std.sub S0 (xc (ps S0 i)) (std.of (std.ssize S0)) = rst S0 i := by
    rw [hxc, hps, hp2]; simp only [s_subs, s_castI, s_of, s_ssz, Int.toNat_natCast]
  have hri := rst_size S0 (i := i) (by omega)
  simp only [hrs]
  have hnm := nf_le S0
  refine ⟨by rw [hxc, hps]; simp only [s_inc, s_castI, s_of, s_ssz]; omega, by rw [hzz]; show (rst S0 i).size ≤ 4611686018427387904; omega, fun he => ⟨fun _ => ⟨rfl, by simp only [s_room, s_nadd, maxLen]; omega, fun hx => absurd hx (by simp [s_not]), fun _ => ?_⟩, fun hx => absurd hx (by simp [s_neq])⟩, fun he => ⟨fun hx => absurd hx (by simp only [s_neq, d_false]; exact fun h => h he), fun _ => ⟨fun _ => ⟨rfl, ?_⟩, fun hx => by cases hx⟩⟩⟩
  · rw [hxe] at he
    have him : i < m := by
      rcases Nat.lt_or_ge i m with h | h
      · exact h
      · have : i = m := by omega
        rw [this, hm] at he
        exact absurd he (nf_end S0)
    have hst : pos S0 (i + 1) = pos S0 i + stp (rst S0 i) := rfl
    have hlb := ln_bd (rst S0 i)
    have hz := err_zero he
    refine ⟨⟨i + 1, by omega⟩, ⟨congrArg (fun x => I x) ?_, rfl, rfl, trivial⟩, ⟨trivial, ⟨rfl, rfl⟩, ⟨rfl, rfl, rfl, rfl, ?_⟩, trivial, trivial, trivial, trivial, trivial⟩, by simp only; omega⟩
    · rw [hxs, hxc, hps]
      show std.ar .add .i64 ((pos S0 i : Nat) : Int) (4 + ln (rst S0 i)) = ((pos S0 (i + 1) : Nat) : Int)
      rw [s_add (by omega) (by omega), hst, stp]
      omega
    · refine app_chunk (sz := 3) rfl (fun j _ => rfl) ?_
      subst hxf hx0 hx1 hxb
      rfl
  · rw [hxe] at he
    have him : i = m := by
      rcases Nat.lt_or_ge i m with h | h
      · rw [hm] at h; exact absurd (nf_ok S0 h) he
      · omega
    rw [hP, ← hS1, him, hm, hxf]
    exact ⟨_, rfl, fun j _ => rfl⟩
end Go.Sx.Sw
