/- Swap: the places of the events that come on a connection, of a script that is read by value. -/
import Derived.Test.YtijnahgehahokaaSwBase
set_option linter.unusedVariables false
set_option linter.unusedSimpArgs false
namespace Go.Sx.Sw
open Go.Sx Go.Proofs Go.Sx.Bn
set_option maxRecDepth 100000
def castI (k : Nat) : Int := (k : Int)
/-- An event's cells. -/
def evC (K C U : Nat → Int) (B : Nat → ByteArray) (j : Nat) : List SV := [I (K j), I (C j), .v (.int .u64 (U j)), St (B j)]
theorem s_castI (k : Nat) : castI k = (k : Int) := rfl
theorem app_chunk {g g' : Nat → List SV} {n sz : Nat} {x : List SV} (hx : x.length = sz) (h : ∀ j, j < n → g j = g' j) (hn : x = g' n) : ∀ j, j < n + 1 → app n g (chunk x sz) j = g' j := by
  intro j hj
  unfold app
  by_cases hl : j < n
  · rw [Nat.blt_eq.mpr hl]; exact h j hl
  · have : j = n := by omega
    subst this
    have hb : Nat.blt j j = false := by cases h : Nat.blt j j with | false => rfl | true => exact absurd (Nat.blt_eq.mp h) (by omega)
    rw [hb]
    simp [chunk, ← hx, hn]
theorem hcond (K C : Nat → Int) (c : Int) (i : Nat) : (if (if (if K i = 2 then decide (C i = c) else false) = true then decide (c ≥ 0) else false) = true then decide (c < min (↑(opn K i)) 16) else false) = hr K C c i := by
  rw [Bool.eq_iff_iff, hr, decide_eq_true_eq]
  by_cases h1 : K i = 2 <;> by_cases h2 : C i = c <;> by_cases h3 : c ≥ 0 <;> simp [h1, h2, h3] <;> omega
/-- The places. -/
def IsPl (K C : Nat → Int) (n : Nat) (c : Int) (r : SV) : Prop := ∃ get, r = .rs 1 (hn K C c n) get ∧ ∀ j, j < hn K C c n → get j = [I (castI (hg K C c n j))]
theorem vc53 (K C U : Nat → Int) (B : Nat → ByteArray) (n : Nat) (hn0 : n ≤ 1000000) (c : Int) : runF std tab noΓ noΔ 2 53 [.rs 4 n (evC K C U B), I c] [] (fin std (IsPl K C n c)) := by
  obtain ⟨O, hO⟩ : ∃ O, O = std := ⟨_, rfl⟩
  obtain ⟨P, hP⟩ : ∃ x, x = IsPl K C n c := ⟨_, rfl⟩
  obtain ⟨hh, hhh⟩ : ∃ x, x = hr K C c := ⟨_, rfl⟩
  obtain ⟨ci, hci⟩ : ∃ x, x = castI := ⟨_, rfl⟩
  obtain ⟨hN, hhN⟩ : ∃ x, x = hn K C c := ⟨_, rfl⟩
  obtain ⟨op, hop⟩ : ∃ x, x = opn K := ⟨_, rfl⟩
  obtain ⟨hG, hhG⟩ : ∃ x, x = hg K C c := ⟨_, rfl⟩
  rw [← hO]
  try rw [← hP]
  try rw [← hhh]
  try rw [← hci]
  try rw [← hhN]
  try rw [← hop]
  try rw [← hhG]
  obtain ⟨ar, cmp, neg, cv, mx, mn, nt, ite, beq, scmp, cat, sub, byte, ssz, of, nat, nadd, nsub, sel, inb, inc, le, ne0, nneg, eqn, room⟩ := O
  cbv
  refine ⟨{i : Nat // i ≤ n}, fun i => [(11, I (ci i.1)), (10, I (of n)), (9, .rs 4 n (evC K C U B)), (6, I (ci (op i.1))), (5, .o 1 (hN i.1)), (1, I c)], fun i => [.gone, .row 3 1 (hN i.1) (fun j => [I (ci (hG i.1 j))]) (hN i.1)], fun i => n - i.1, ⟨0, by omega⟩, fun i => by cbv, ?_, ?_, fun i => ?_⟩
  · subst hci hhN hop; exact ⟨rfl, rfl, rfl, rfl, rfl, rfl, trivial⟩
  · subst hhN; exact ⟨trivial, ⟨rfl, rfl, rfl, rfl, fun j hj => absurd hj (Nat.not_lt_zero j)⟩, trivial⟩
  obtain ⟨i, hi⟩ := i
  cbv
  obtain ⟨rfl, rfl, rfl, rfl, rfl, rfl, rfl, rfl, rfl, rfl, rfl, rfl, rfl, rfl, rfl, rfl, rfl, rfl, rfl, rfl, rfl, rfl, rfl, rfl, rfl, rfl⟩ := leaf_eq hO
  clear hO
  have ho : op i ≤ i := by rw [hop]; exact opn_le K i
  simp (disch := omega) only [s_of, s_nat, s_nadd, s_nsub, s_ssz, s_lss, s_leq, s_gtr, s_geq, s_eql, s_neq, s_not, s_ite, s_beq, s_inb, s_inc, s_le, s_eqn, s_room, s_ne0, s_nneg, s_mx, s_mn, s_cat, s_subs, s_byte, d_true, d_false, Bool.not_eq_true', Bool.not_eq_false', hci, s_castI, Int.toNat_natCast, s_add]
  subst hhN hop hhG hhh hci
  rw [hcond]
  have hnl := hl_len K C c i
  have hk1 : K i = 1 → hr K C c i = false := fun h => by unfold hr; simp [h]
  have hn0' : hr K C c i = false → hn K C c (i + 1) = hn K C c i := fun h => by simp [hn, hl, h]
  have hn1 : hr K C c i = true → hn K C c (i + 1) = hn K C c i + 1 ∧ hg K C c (i + 1) (hn K C c i) = i := fun h => by simp [hn, hl, hg, h]
  have hpre : ∀ j, j < hn K C c i → hg K C c (i + 1) j = hg K C c i j := fun j hj => hg_pre hj
  have hnle : hn K C c i ≤ i := hnl
  refine ⟨fun h1 => ⟨⟨by omega, by omega⟩, fun h2 => ?_, fun h2 => ⟨⟨fun _ => trivial, trivial⟩, ⟨fun _ => trivial, trivial⟩, ⟨fun _ => trivial, trivial⟩, fun h3 => ?_, fun h3 => ?_⟩⟩, fun h1 => ?_⟩
  · have e0 := hn0' (hk1 h2)
    refine ⟨⟨i + 1, by omega⟩, ⟨congrArg (fun x => I x) (by show _ = ((i + 1 : Nat) : Int); omega), rfl, rfl, congrArg (fun x => I x) (by show _ = ((opn K (i + 1) : Nat) : Int); rw [opn, if_pos h2]; omega), congrArg (SV.o 1) e0.symm, rfl, trivial⟩, ⟨trivial, ⟨rfl, rfl, e0.symm, e0.symm, fun j hj => congrArg (fun x : Nat => [I (x : Int)]) (hpre j hj).symm⟩, trivial⟩, by simp only; omega⟩
  · obtain ⟨e0, e1⟩ := hn1 h3
    refine ⟨trivial, ⟨by simp only [maxLen]; omega, by omega⟩, ⟨i + 1, by omega⟩, ⟨congrArg (fun x => I x) (by show _ = ((i + 1 : Nat) : Int); omega), rfl, rfl, congrArg (fun x => I x) (by show _ = ((opn K (i + 1) : Nat) : Int); rw [opn, if_neg h2]; omega), congrArg (SV.o 1) e0.symm, rfl, trivial⟩, ⟨trivial, ⟨rfl, rfl, e0.symm, e0.symm, ?_⟩, trivial⟩, by simp only; omega⟩
    exact app_chunk (g := fun j => [I ((hg K C c i j : Nat) : Int)]) (g' := fun j => [I ((hg K C c (i + 1) j : Nat) : Int)]) (x := [I (i : Int)]) rfl (fun j hj => congrArg (fun x : Nat => [I (x : Int)]) (hpre j hj).symm) (by rw [e1])
  · have e0 := hn0' h3
    refine ⟨⟨i + 1, by omega⟩, ⟨congrArg (fun x => I x) (by show _ = ((i + 1 : Nat) : Int); omega), rfl, rfl, congrArg (fun x => I x) (by show _ = ((opn K (i + 1) : Nat) : Int); rw [opn, if_neg h2]; omega), congrArg (SV.o 1) e0.symm, rfl, trivial⟩, ⟨trivial, ⟨rfl, rfl, e0.symm, e0.symm, fun j hj => congrArg (fun x : Nat => [I (x : Int)]) (hpre j hj).symm⟩, trivial⟩, by simp only; omega⟩
  · have : i = n := by omega
    subst this hP
    exact ⟨trivial, _, rfl, fun j hj => rfl⟩
end Go.Sx.Sw
