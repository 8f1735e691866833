/- SwapKeeps: the row: for every script and every list of swaps, the law returns true and leaves its arguments as they were. No condition beyond the row. -/
import Derived.Test.YtijnahgehahokaaRows
import Derived.Test.YtijnahgehahokaaSwRowL
import Derived.Test.YtijnahgehahokaaSwOpen
import Derived.WalkKit
import Derived.ProofKit
import Derived.OpenShut
import Derived.ShutString
import Derived.ChangeOld
import Derived.Below
import Derived.SizedLaws
namespace Go.Proofs.Ytijnahgehahokaa.swapKeeps
open Go.ChangeShapes Go.WideShapes Go.ChangeAt Go.RowKit
set_option linter.unusedVariables false
theorem own : ownKnob Try.prog.godebug = none := by kernel_rfl
theorem laidOut : laidOutB Try.prog = true := by kernel_rfl
theorem kinds62 : Go.Sx.kindsOf Try.prog 40 62 = some [.int .i64, .int .i64, .int .u64, .str] := by kernel_rfl
theorem kinds84 : Go.Sx.kindsOf Try.prog 40 84 = some [.int .i64, .int .i64, .str] := by kernel_rfl
theorem shape4 {Bd : Nat} {vs : List Value} (h : Go.Sx.shapeB Bd [.int .i64, .int .i64, .int .u64, .str] vs) : ∃ (k c u : Int) (b : ByteArray), vs = [.int .i64 k, .int .i64 c, .int .u64 u, .string b] ∧ b.size ≤ Bd := by
  simp only [Go.Sx.shapeB, Go.Sx.ckOkB] at h
  obtain ⟨_, _, rfl, ⟨k, rfl⟩, _, _, rfl, ⟨c, rfl⟩, _, _, rfl, ⟨u, rfl⟩, _, _, rfl, ⟨b, rfl, hb⟩, rfl⟩ := h
  exact ⟨k, c, u, b, rfl, hb⟩
theorem shape3 {Bd : Nat} {vs : List Value} (h : Go.Sx.shapeB Bd [.int .i64, .int .i64, .str] vs) : ∃ (k c : Int) (b : ByteArray), vs = [.int .i64 k, .int .i64 c, .string b] ∧ b.size ≤ Bd := by
  simp only [Go.Sx.shapeB, Go.Sx.ckOkB] at h
  obtain ⟨_, _, rfl, ⟨k, rfl⟩, _, _, rfl, ⟨c, rfl⟩, _, _, rfl, ⟨b, rfl, hb⟩, rfl⟩ := h
  exact ⟨k, c, b, rfl, hb⟩
theorem reach : reachBytes ≤ 140737488355328 := by decide
set_option maxRecDepth 100000 in
theorem lifted (os : Os) (started : os.Started) (H : Type) (enc : TypeId × Value → H) :
    ReturnsInHanded {} Try.checked os 6 .any (Rows.swapKeepsSpec.pre6 enc Try.prog Try.f6 Rows.swapKeepsRow.domain false) (Rows.swapKeepsSpec.post enc Try.prog Try.f6 false true false false) := by
  refine returnsInHanded_of_change_sized (C := Try.checked) own started (by kernel_rfl) Try.func6
    (ChangeSpec.witness6 (enc := enc) (C := Try.checked) false ⟨#[], #[.slice none 0 0, .slice none 0 0], []⟩ 8 (by kernel_rfl) (by kernel_rfl) (by kernel_rfl) (by kernel_rfl)) ?_
  intro W base args ds gs before hval0 hW hcnd hsz0 _
  have hval : ∀ (j : Nat) t v, Try.f6.params[j]? = some t → args[j]? = some v → Value.okWide Try.prog W .any base t v := hval0
  have hW' := hW
  obtain ⟨p, q, hA0, hV, rfl, hfz, hnd⟩ := hW
  have hA : DataW.TrodAll enc Try.prog W 0 (fun _ => true) true Try.f6.params.toList args.toList ds p := hA0
  rw [Try.params6] at hA hval
  have hsz : (DataW.weightsEach Try.prog (Try.f6.params.toList ++ Rows.swapKeepsSpec.plain.varTypes Try.prog) (ds ++ gs)).all (· ≤ reachBytes) = true := hsz0
  rw [Try.params6] at hsz
  obtain ⟨v1, vs1, d1, ds1, p1, q1, hargs, rfl, rfl, h1, r1⟩ := trodAll_cons hA
  obtain ⟨v2, vs2, d2, ds2, p2, q2, rfl, rfl, rfl, h2, r2⟩ := trodAll_cons r1
  obtain ⟨rfl, rfl, rfl⟩ := trodAll_nil r2
  obtain rfl : args = #[v1, v2] := by cases args; simp_all
  obtain ⟨rfl, rfl⟩ := trodVars_none hV
  obtain ⟨a1, len1, cap1, rfl⟩ := okWide_slice Try.underlying49 (hval 0 49 v1 rfl rfl)
  obtain ⟨a2, len2, cap2, rfl⟩ := okWide_slice Try.underlying50 (hval 1 50 v2 rfl rfl)
  have k1 := h1
  have k2 := h2
  have lt1 : ∀ x ∈ p1, x.block < W.heap.size := by obtain ⟨m, hm⟩ := k1; exact DataW.trod_lt m _ _ _ hm
  have lt2 : ∀ x ∈ p2, x.block < W.heap.size := by obtain ⟨m, hm⟩ := k2; exact DataW.trod_lt m _ _ _ hm
  have w1 : (d1.weights Try.prog 49).all (· ≤ reachBytes) = true := Go.Sx.weights_each hsz 0 49 d1 rfl rfl
  have w2 : (d2.weights Try.prog 50).all (· ≤ reachBytes) = true := Go.Sx.weights_each hsz 1 50 d2 rfl rfl
  obtain ⟨fuel1, hf1⟩ := h1
  obtain ⟨fuel2, hf2⟩ := h2
  have o1 := Go.Sx.open_rows (a := a1) (len := len1) (cap := cap1) Try.underlying49 kinds62 (by kernel_rfl) hf1 w1
  have o2 := Go.Sx.open_rows (a := a2) (len := len2) (cap := cap2) Try.underlying50 kinds84 (by kernel_rfl) hf2 w2
  obtain ⟨hc1, hm1, ha1, hb1, us1, hu1⟩ := o1
  obtain ⟨hc2, hm2, ha2, hb2, us2, hu2⟩ := o2
  have e62 : Try.prog.bytesOf 62 = 40 := by kernel_rfl
  have e84 : Try.prog.bytesOf 84 = 32 := by kernel_rfl
  rw [e62] at hb1
  rw [e84] at hb2
  have hrb := reach
  have each1 : ∀ j, ∃ x : Int × Int × Int × ByteArray, j < len1 → us1 j = [.int .i64 x.1, .int .i64 x.2.1, .int .u64 x.2.2.1, .string x.2.2.2] ∧ x.2.2.2.size ≤ reachBytes := fun j => by
    by_cases hj : j < len1
    · obtain ⟨k, c, u, b, e, hb⟩ := shape4 (hu1 j hj).1
      exact ⟨(k, c, u, b), fun _ => ⟨e, hb⟩⟩
    · exact ⟨(0, 0, 0, ⟨#[]⟩), fun h => absurd h hj⟩
  have each2 : ∀ j, ∃ x : Int × Int × ByteArray, j < len2 → us2 j = [.int .i64 x.1, .int .i64 x.2.1, .string x.2.2] ∧ x.2.2.size ≤ reachBytes := fun j => by
    by_cases hj : j < len2
    · obtain ⟨k, c, b, e, hb⟩ := shape3 (hu2 j hj).1
      exact ⟨(k, c, b), fun _ => ⟨e, hb⟩⟩
    · exact ⟨(0, 0, ⟨#[]⟩), fun h => absurd h hj⟩
  obtain ⟨x1, hx1⟩ : ∃ x1 : Nat → Int × Int × Int × ByteArray, ∀ j, j < len1 → us1 j = [.int .i64 (x1 j).1, .int .i64 (x1 j).2.1, .int .u64 (x1 j).2.2.1, .string (x1 j).2.2.2] ∧ (x1 j).2.2.2.size ≤ reachBytes := ⟨fun j => (each1 j).choose, fun j hj => (each1 j).choose_spec hj⟩
  obtain ⟨x2, hx2⟩ : ∃ x2 : Nat → Int × Int × ByteArray, ∀ j, j < len2 → us2 j = [.int .i64 (x2 j).1, .int .i64 (x2 j).2.1, .string (x2 j).2.2] ∧ (x2 j).2.2.size ≤ reachBytes := ⟨fun j => (each2 j).choose, fun j hj => (each2 j).choose_spec hj⟩
  clear each1 each2 hA0 hval0 hsz0
  have R1 := Go.Sx.Sw.rel_ev (W := W) (fun j => (x1 j).1) (fun j => (x1 j).2.1) (fun j => (x1 j).2.2.1) (fun j => (x1 j).2.2.2) hc1 hm1 ha1 (fun j hj => by
    obtain ⟨blk, off, g1, g2, g3⟩ := (hu1 j hj).2
    rw [(hx1 j hj).1] at g3
    exact ⟨blk, off, g1, g2, g3⟩)
  have R2 := Go.Sx.Sw.rel_sw (W := W) (fun j => (x2 j).1) (fun j => (x2 j).2.1) (fun j => (x2 j).2.2) hc2 hm2 ha2 (fun j hj => by
    obtain ⟨blk, off, g1, g2, g3⟩ := (hu2 j hj).2
    rw [(hx2 j hj).1] at g3
    exact ⟨blk, off, g1, g2, g3⟩)
  refine (Go.Sx.Sw.law6 (by omega) (fun j hj => Nat.le_trans (hx1 j hj).2 hrb) (by omega) (fun j hj => Nat.le_trans (hx2 j hj).2 hrb) R1 R2).mono fun e W' ⟨he, bel⟩ => ?_
  subst he
  exact ⟨_, rfl, _, _, _, [], _, [], hW', trodAll_mk1 (shut_bool Try.underlying4 _), (trodAll_cons_mk (Below.trod laidOut (by kernel_rfl) (of_decide_eq_true (by kernel_rfl)) k1 bel lt1) (trodAll_cons_mk (Below.trod laidOut (by kernel_rfl) (of_decide_eq_true (by kernel_rfl)) k2 bel lt2) trodAll_mk0)), rfl, bel.frame _, fun h => by cases h⟩
theorem over : Rows.swapKeepsRow.holds Try.pinned (OpenSpec.ofChange Rows.swapKeepsSpec) :=
  OpenClaim.holds_of_wide 6 Try.f6 rfl rfl rfl rfl rfl rfl rfl ⟨rfl, rfl, rfl, rfl, rfl⟩ rfl rfl rfl rfl rfl (by kernel_rfl) Try.func6 (by kernel_rfl)
    (of_decide_eq_true (by kernel_rfl)) (by unfold Func.isWrapper; first | (rw [if_pos (by decide +kernel)]; kernel_rfl) | (rw [if_neg (by decide +kernel)]; exact ⟨rfl, rfl⟩))
    (fun os started H enc _ => lifted os started H enc)
theorem proved : Rows.SwapKeepsSaid := over
end Go.Proofs.Ytijnahgehahokaa.swapKeeps
namespace Go.Proofs.Ytijnahgehahokaa
/-- The row, under a short name, for the claim. -/
theorem swapKeeps_holds : Rows.SwapKeepsSaid := swapKeeps.proved
end Go.Proofs.Ytijnahgehahokaa
