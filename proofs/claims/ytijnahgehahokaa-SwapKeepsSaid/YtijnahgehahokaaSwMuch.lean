/- Swap: is there too much of it; are two lists the same; the program's swaps out of the document's. -/
import Derived.Test.YtijnahgehahokaaSwProg
set_option linter.unusedVariables false
set_option linter.unusedSimpArgs false
namespace Go.Sx.Sw
open Go.Sx Go.Proofs Go.Sx.Bn
set_option maxRecDepth 100000
set_option maxHeartbeats 4000000
def tot (B : FB) : Nat → Nat
  | 0 => 0
  | i + 1 => min (tot B i + (B i).size) 1048576
theorem tot_le (B : FB) : ∀ i, tot B i ≤ 1048576
  | 0 => by simp [tot]
  | i + 1 => by rw [tot]; omega
theorem tot_mono (B : FB) : ∀ n i, i ≤ n → tot B i ≤ tot B n
  | 0, i, h => by have : i = 0 := by omega
                  subst this; exact Nat.le_refl _
  | n + 1, i, h => by
    by_cases h2 : i = n + 1
    · subst h2; exact Nat.le_refl _
    · have := tot_mono B n i (by omega)
      have := tot_le B i
      rw [tot]; omega
theorem tot_small (B : FB) (n : Nat) (h : tot B n ≤ 20000) : ∀ i, i < n → (B i).size ≤ 20000 := by
  intro i hi
  have := tot_mono B n (i + 1) (by omega)
  rw [tot] at this
  omega
def mch (n : Nat) (B : FB) : Bool := if decide ((n : Int) > 150) = true then true else decide (((tot B n : Nat) : Int) > 20000)
theorem mch_no {n : Nat} {B : FB} (h : mch n B = false) : n ≤ 150 ∧ ∀ i, i < n → (B i).size ≤ 20000 := by
  unfold mch at h
  split at h
  · cases h
  · rename_i h1
    rw [decide_eq_true_eq] at h1
    rw [decide_eq_false_iff_not] at h
    exact ⟨by omega, tot_small B n (by omega)⟩
theorem vc40 (K C U : Nat → Int) (B : FB) (n : Nat) (hn0 : n ≤ 140737488355328) (hB : ∀ i, i < n → (B i).size ≤ 140737488355328) :
    runF std tab noΓ noΔ 2 40 [.rs 4 n (evC K C U B)] [] (fin std fun r => r = Bo (mch n B)) := by
  obtain ⟨xt, hxt⟩ : ∃ f : Nat → Int, f = fun i => ((tot B i : Nat) : Int) := ⟨_, rfl⟩
  obtain ⟨O, hO⟩ : ∃ O, O = std := ⟨_, rfl⟩
  obtain ⟨xc, hxc⟩ : ∃ x, x = castI := ⟨_, rfl⟩
  obtain ⟨xm, hxm⟩ : ∃ x, x = mch n B := ⟨_, rfl⟩
  rw [← hO]
  try rw [← hxc]
  try rw [← hxm]
  obtain ⟨ar, cmp, neg, cv, mx, mn, nt, ite, beq, scmp, cat, sub, byte, ssz, of, nat, nadd, nsub, sel, inb, inc, le, ne0, nneg, eqn, room⟩ := O
  cbv
  refine ⟨{i : Nat // i ≤ n}, fun i => [(4, I (xc i.1)), (3, I (xt i.1)), (0, .rs 4 n (evC K C U B))], fun _ => [], fun i => n - i.1, ⟨0, by omega⟩, fun i => by cbv, ?_, by cbv, fun i => ?_⟩
  · subst hxc hxt; exact ⟨rfl, rfl, rfl, trivial⟩
  obtain ⟨i, hi⟩ := i
  cbv
  obtain ⟨rfl, rfl, rfl, rfl, rfl, rfl, rfl, rfl, rfl, rfl, rfl, rfl, rfl, rfl, rfl, rfl, rfl, rfl, rfl, rfl, rfl, rfl, rfl, rfl, rfl, rfl⟩ := leaf_eq hO
  clear hO
  have hni : std.nat (xc i) = i := by rw [hxc]; simp [s_nat, s_castI]
  refine ⟨fun h => ?_, fun h => ⟨⟨fun _ => trivial, trivial⟩, ?_⟩⟩
  · have hin : i < n := by rw [hxc] at h; simpa [s_lss, s_castI, s_of] using h
    have hb := hB i hin
    have ht := tot_le B i
    have e1 : std.ar .add .i64 (xc i) 1 = xc (i + 1) := by rw [hxc]; simp (disch := omega) only [s_castI, s_add]; omega
    have e2 : std.mn (std.ar .add .i64 (xt i) (std.of (std.ssize (B (std.nat (xc i)))))) 1048576 = xt (i + 1) := by
      rw [hni, hxt]
      show std.mn (std.ar .add .i64 ((tot B i : Nat) : Int) (((B i).size : Nat) : Int)) 1048576 = ((tot B (i + 1) : Nat) : Int)
      rw [s_add (by omega) (by omega), s_mn, tot]; omega
    exact ⟨by rw [hxc]; simp only [s_inb, s_castI]; omega, ⟨i + 1, by omega⟩, ⟨congrArg (fun x => I x) e1, congrArg (fun x => I x) e2, rfl, trivial⟩, trivial, by simp only; omega⟩
  · have hin : i = n := by
      rw [hxc] at h
      have : ¬ i < n := by simpa [s_lss, s_castI, s_of] using h
      omega
    subst hin
    rw [hxm, hxt]
    simp only [s_of, s_gtr, s_ite]
    rfl
/-- What the law's own measure calls. -/
def ΔM (mc : Nat → FB → Bool) : Contracts := fun f => match f with
  | 40 => some (Spec.con fun args κ => ∃ K C U B n, args = [.rs 4 n (evC K C U B)] ∧ n ≤ 140737488355328 ∧ (∀ i, i < n → (B i).size ≤ 140737488355328) ∧ κ (Bo (mc n B)))
  | _ => none
theorem ΔM_ok : ContractsOk Try.prog (ΔM mch) := by
  constructor
  intro f m hm
  unfold ΔM at hm
  split at hm
  · cases hm
    refine contract_ok2 (runF_ok tab_ok noΓ_ok noΔ_ok 2) ?_
    rintro args κ ⟨K, C, U, B, n, rfl, hn0, hB, hκ⟩
    exact ⟨rfl, _, _, vc40 K C U B n hn0 hB, fun r E u h hr => by subst h; exact hr, hκ⟩
  · cases hm
def much (n : Nat) (B : FB) (m : Nat) (ys : FB) : Bool := if (if mch n B = true then true else decide ((m : Int) > 30)) = true then true else decide (((tot ys m : Nat) : Int) > 20000)
theorem much_no {n m : Nat} {B ys : FB} (h : much n B m ys = false) : n ≤ 150 ∧ (∀ i, i < n → (B i).size ≤ 20000) ∧ m ≤ 30 ∧ ∀ i, i < m → (ys i).size ≤ 20000 := by
  unfold much at h
  cases h1 : mch n B with
  | true => simp [h1] at h
  | false =>
    have := mch_no h1
    by_cases h2 : (m : Int) > 30
    · simp [h1, h2] at h
    · simp only [h1, h2] at h
      simp at h
      exact ⟨this.1, this.2, by omega, tot_small ys m (by omega)⟩
theorem vc20 (K C U : Nat → Int) (B : FB) (n : Nat) (hn0 : n ≤ 140737488355328) (hB : ∀ i, i < n → (B i).size ≤ 140737488355328) (cs ns : Nat → Int) (ys : FB) (m : Nat) (hm : m ≤ 140737488355328) (hy : ∀ i, i < m → (ys i).size ≤ 140737488355328) :
    runF std tab noΓ (ΔM mch) 2 20 [.rs 4 n (evC K C U B), .rs 3 m (swC cs ns ys)] [] (fin std fun r => r = Bo (much n B m ys)) := by
  obtain ⟨xt, hxt⟩ : ∃ f : Nat → Int, f = fun i => ((tot ys i : Nat) : Int) := ⟨_, rfl⟩
  obtain ⟨O, hO⟩ : ∃ O, O = std := ⟨_, rfl⟩
  obtain ⟨xc, hxc⟩ : ∃ x, x = castI := ⟨_, rfl⟩
  obtain ⟨xu, hxu⟩ : ∃ x, x = much n B m ys := ⟨_, rfl⟩
  obtain ⟨xm, hxm⟩ : ∃ x, x = mch := ⟨_, rfl⟩
  rw [← hO]
  try rw [← hxc]
  try rw [← hxu]
  try rw [← hxm]
  obtain ⟨ar, cmp, neg, cv, mx, mn, nt, ite, beq, scmp, cat, sub, byte, ssz, of, nat, nadd, nsub, sel, inb, inc, le, ne0, nneg, eqn, room⟩ := O
  cbv
  refine ⟨{i : Nat // i ≤ m}, fun i => [(6, I (xc i.1)), (5, I (xt i.1)), (0, .rs 4 n (evC K C U B)), (1, .rs 3 m (swC cs ns ys))], fun _ => [], fun i => m - i.1, ⟨0, by omega⟩, fun i => by cbv, ?_, by cbv, fun i => ?_⟩
  · subst hxc hxt; exact ⟨rfl, rfl, rfl, rfl, trivial⟩
  obtain ⟨i, hi⟩ := i
  cbv
  refine ⟨fun h => ?_, fun h => ⟨K, C, U, B, n, rfl, hn0, hB, ?_⟩⟩
  · skip
    obtain ⟨rfl, rfl, rfl, rfl, rfl, rfl, rfl, rfl, rfl, rfl, rfl, rfl, rfl, rfl, rfl, rfl, rfl, rfl, rfl, rfl, rfl, rfl, rfl, rfl, rfl, rfl⟩ := leaf_eq hO
    clear hO
    have hni : std.nat (xc i) = i := by rw [hxc]; simp [s_nat, s_castI]
    have hin : i < m := by rw [hxc] at h; simpa [s_lss, s_castI, s_of] using h
    have hb := hy i hin
    have ht := tot_le ys i
    have e1 : std.ar .add .i64 (xc i) 1 = xc (i + 1) := by rw [hxc]; simp (disch := omega) only [s_castI, s_add]; omega
    have e2 : std.mn (std.ar .add .i64 (xt i) (std.of (std.ssize (ys (std.nat (xc i)))))) 1048576 = xt (i + 1) := by
      rw [hni, hxt]
      show std.mn (std.ar .add .i64 ((tot ys i : Nat) : Int) (((ys i).size : Nat) : Int)) 1048576 = ((tot ys (i + 1) : Nat) : Int)
      rw [s_add (by omega) (by omega), s_mn, tot]; omega
    exact ⟨by rw [hxc]; simp only [s_inb, s_castI]; omega, ⟨i + 1, by omega⟩, ⟨congrArg (fun x => I x) e1, congrArg (fun x => I x) e2, rfl, rfl, trivial⟩, trivial, by simp only; omega⟩
  · cbv
    obtain ⟨rfl, rfl, rfl, rfl, rfl, rfl, rfl, rfl, rfl, rfl, rfl, rfl, rfl, rfl, rfl, rfl, rfl, rfl, rfl, rfl, rfl, rfl, rfl, rfl, rfl, rfl⟩ := leaf_eq hO
    clear hO
    have hin : i = m := by
      rw [hxc] at h
      have : ¬ i < m := by simpa [s_lss, s_castI, s_of] using h
      omega
    subst hin
    refine ⟨⟨fun _ => trivial, trivial⟩, ⟨fun _ => trivial, trivial⟩, ?_⟩
    rw [hxu, hxm, hxt]
    simp only [s_of, s_gtr, s_ite]
    rfl
/-- Two lists of the same frames are the same. -/
theorem vc22 (a b : Nat → Int) (d : FB) (n : Nat) (hn0 : n ≤ 140737488355328) :
    runF std tab noΓ noΔ 2 22 [.rs 3 n (fun j => [I (a j), I (b j), St (d j)]), .rs 3 n (fun j => [I (a j), I (b j), St (d j)])] [] (fin std fun r => r = Bo true) := by
  obtain ⟨O, hO⟩ : ∃ O, O = std := ⟨_, rfl⟩
  obtain ⟨xc, hxc⟩ : ∃ x, x = castI := ⟨_, rfl⟩
  rw [← hO]
  try rw [← hxc]
  obtain ⟨ar, cmp, neg, cv, mx, mn, nt, ite, beq, scmp, cat, sub, byte, ssz, of, nat, nadd, nsub, sel, inb, inc, le, ne0, nneg, eqn, room⟩ := O
  cbv
  refine ⟨?_, fun h => ?_⟩
  · skip
    obtain ⟨rfl, rfl, rfl, rfl, rfl, rfl, rfl, rfl, rfl, rfl, rfl, rfl, rfl, rfl, rfl, rfl, rfl, rfl, rfl, rfl, rfl, rfl, rfl, rfl, rfl, rfl⟩ := leaf_eq hO
    clear hO
    simp [s_neq]
  refine ⟨{i : Nat // i ≤ n}, fun i => [(5, I (xc i.1)), (0, .rs 3 n (fun j => [I (a j), I (b j), St (d j)])), (1, .rs 3 n (fun j => [I (a j), I (b j), St (d j)]))], fun _ => [], fun i => n - i.1, ⟨0, by omega⟩, fun i => by cbv, ?_, by cbv, fun i => ?_⟩
  · subst hxc; exact ⟨rfl, rfl, rfl, trivial⟩
  obtain ⟨i, hi⟩ := i
  cbv
  obtain ⟨rfl, rfl, rfl, rfl, rfl, rfl, rfl, rfl, rfl, rfl, rfl, rfl, rfl, rfl, rfl, rfl, rfl, rfl, rfl, rfl, rfl, rfl, rfl, rfl, rfl, rfl⟩ := leaf_eq hO
  clear hO
  refine ⟨fun h => ⟨?_, fun h2 => ?_, fun h2 => ?_⟩, fun h => trivial⟩
  · rw [hxc]; rw [hxc] at h
    have : i < n := by simpa [s_lss, s_castI, s_of] using h
    simp only [s_inb, s_castI]; exact ⟨by omega, by omega, trivial⟩
  · simp [s_eql, s_ite, s_not, s_seq] at h2
  · have : i < n := by rw [hxc] at h; simpa [s_lss, s_castI, s_of] using h
    have e1 : std.ar .add .i64 (xc i) 1 = xc (i + 1) := by rw [hxc]; simp (disch := omega) only [s_castI, s_add]; omega
    exact ⟨⟨i + 1, by omega⟩, ⟨congrArg (fun x => I x) e1, rfl, rfl, trivial⟩, trivial, by simp only; omega⟩
theorem vc25 (K C U : Nat → Int) (B : FB) (n : Nat) (hn0 : n ≤ 140737488355328) :
    runF std tab noΓ noΔ 2 25 [.rs 4 n (evC K C U B), .rs 4 n (evC K C U B)] [] (fin std fun r => r = Bo true) := by
  obtain ⟨O, hO⟩ : ∃ O, O = std := ⟨_, rfl⟩
  obtain ⟨xc, hxc⟩ : ∃ x, x = castI := ⟨_, rfl⟩
  rw [← hO]
  try rw [← hxc]
  obtain ⟨ar, cmp, neg, cv, mx, mn, nt, ite, beq, scmp, cat, sub, byte, ssz, of, nat, nadd, nsub, sel, inb, inc, le, ne0, nneg, eqn, room⟩ := O
  cbv
  refine ⟨?_, fun h => ?_⟩
  · skip
    obtain ⟨rfl, rfl, rfl, rfl, rfl, rfl, rfl, rfl, rfl, rfl, rfl, rfl, rfl, rfl, rfl, rfl, rfl, rfl, rfl, rfl, rfl, rfl, rfl, rfl, rfl, rfl⟩ := leaf_eq hO
    clear hO
    simp [s_neq]
  refine ⟨{i : Nat // i ≤ n}, fun i => [(5, I (xc i.1)), (0, .rs 4 n (evC K C U B)), (1, .rs 4 n (evC K C U B))], fun _ => [], fun i => n - i.1, ⟨0, by omega⟩, fun i => by cbv, ?_, by cbv, fun i => ?_⟩
  · subst hxc; exact ⟨rfl, rfl, rfl, trivial⟩
  obtain ⟨i, hi⟩ := i
  cbv
  obtain ⟨rfl, rfl, rfl, rfl, rfl, rfl, rfl, rfl, rfl, rfl, rfl, rfl, rfl, rfl, rfl, rfl, rfl, rfl, rfl, rfl, rfl, rfl, rfl, rfl, rfl, rfl⟩ := leaf_eq hO
  clear hO
  refine ⟨fun h => ⟨?_, fun h2 => ?_, fun h2 => ?_⟩, fun h => trivial⟩
  · rw [hxc]; rw [hxc] at h
    have : i < n := by simpa [s_lss, s_castI, s_of] using h
    simp only [s_inb, s_castI]; exact ⟨by omega, by omega, trivial⟩
  · simp [s_eql, s_ite, s_not, s_seq] at h2
  · have : i < n := by rw [hxc] at h; simpa [s_lss, s_castI, s_of] using h
    have e1 : std.ar .add .i64 (xc i) 1 = xc (i + 1) := by rw [hxc]; simp (disch := omega) only [s_castI, s_add]; omega
    exact ⟨⟨i + 1, by omega⟩, ⟨congrArg (fun x => I x) e1, rfl, rfl, trivial⟩, trivial, by simp only; omega⟩
theorem vc27 (cs ns : Nat → Int) (ys : FB) (m : Nat) (hm : m ≤ 1000) :
    runF std tab noΓ noΔ 2 27 [.rs 3 m (swC cs ns ys)] [] (fin std fun r => ∃ get, r = .rs 3 m get ∧ ∀ j, j < m → get j = swC cs ns ys j) := by
  obtain ⟨O, hO⟩ : ∃ O, O = std := ⟨_, rfl⟩
  obtain ⟨P, hP⟩ : ∃ x, x = (fun r => ∃ get, r = SV.rs 3 m get ∧ ∀ j, j < m → get j = swC cs ns ys j) := ⟨_, rfl⟩
  obtain ⟨xc, hxc⟩ : ∃ x, x = castI := ⟨_, rfl⟩
  rw [← hO]
  try rw [← hP]
  try rw [← hxc]
  obtain ⟨ar, cmp, neg, cv, mx, mn, nt, ite, beq, scmp, cat, sub, byte, ssz, of, nat, nadd, nsub, sel, inb, inc, le, ne0, nneg, eqn, room⟩ := O
  cbv
  refine ⟨{i : Nat // i ≤ m}, fun i => [(4, I (xc i.1)), (3, .o 1 i.1), (0, .rs 3 m (swC cs ns ys))], fun i => [.gone, .row 66 3 i.1 (swC cs ns ys) i.1], fun i => m - i.1, ⟨0, by omega⟩, fun i => by cbv, ?_, ?_, fun i => ?_⟩
  · subst hxc; exact ⟨rfl, rfl, rfl, trivial⟩
  · exact ⟨trivial, ⟨rfl, rfl, rfl, rfl, fun j hj => absurd hj (Nat.not_lt_zero j)⟩, trivial⟩
  obtain ⟨i, hi⟩ := i
  cbv
  refine ⟨fun h => ?_, fun h => ?_⟩
  · skip
    obtain ⟨rfl, rfl, rfl, rfl, rfl, rfl, rfl, rfl, rfl, rfl, rfl, rfl, rfl, rfl, rfl, rfl, rfl, rfl, rfl, rfl, rfl, rfl, rfl, rfl, rfl, rfl⟩ := leaf_eq hO
    clear hO
    have hni : std.nat (xc i) = i := by rw [hxc]; simp [s_nat, s_castI]
    have hin : i < m := by rw [hxc] at h; simpa [s_lss, s_castI, s_of] using h
    have e1 : std.ar .add .i64 (xc i) 1 = xc (i + 1) := by rw [hxc]; simp (disch := omega) only [s_castI, s_add]; omega
    have hb : std.inb (xc i) m := by rw [hxc]; simp only [s_inb, s_castI]; omega
    simp only [hni]
    exact ⟨⟨hb, hb, hb, trivial⟩, rfl, by simp only [s_room, s_nadd, maxLen]; omega, ⟨i + 1, by omega⟩, ⟨congrArg (fun x => I x) e1, rfl, rfl, trivial⟩, ⟨trivial, ⟨rfl, rfl, rfl, rfl, app_chunk (sz := 3) rfl (fun j _ => rfl) rfl⟩, trivial⟩, by simp only; omega⟩
  · skip
    obtain ⟨rfl, rfl, rfl, rfl, rfl, rfl, rfl, rfl, rfl, rfl, rfl, rfl, rfl, rfl, rfl, rfl, rfl, rfl, rfl, rfl, rfl, rfl, rfl, rfl, rfl, rfl⟩ := leaf_eq hO
    clear hO
    have hin : i = m := by
      rw [hxc] at h
      have : ¬ i < m := by simpa [s_lss, s_castI, s_of] using h
      omega
    subst hin
    rw [hP]
    exact ⟨rfl, _, rfl, fun j _ => rfl⟩
end Go.Sx.Sw
