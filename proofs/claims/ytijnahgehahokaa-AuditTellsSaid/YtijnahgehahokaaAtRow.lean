/- AuditTells: the row: for every owner and every list of views, the law returns true and leaves its arguments as they were. No condition beyond the row. -/
import Derived.Test.YtijnahgehahokaaRows
import Derived.Test.YtijnahgehahokaaAtLaw
import Derived.Test.YtijnahgehahokaaSxOpen
import Derived.WalkKit
import Derived.ProofKit
import Derived.OpenShut
import Derived.ShutString
import Derived.ChangeOld
import Derived.Below
import Derived.SizedLaws
namespace Go.Proofs.Ytijnahgehahokaa.auditTells
open Go.ChangeShapes Go.WideShapes Go.ChangeAt Go.RowKit
set_option linter.unusedVariables false
theorem own : ownKnob Try.prog.godebug = none := by kernel_rfl
theorem laidOut : laidOutB Try.prog = true := by kernel_rfl
theorem kinds37 : Go.Sx.kindsOf Try.prog 40 37 = some (List.replicate 19 (.int .i64)) := by kernel_rfl
theorem ints_of : ∀ (n : Nat) (vs : List Value), Go.Sx.shape (List.replicate n (.int .i64)) vs → ∃ g : Nat → Int, ∀ i, i < n → vs[i]? = some (.int .i64 (g i))
  | 0, _, _ => ⟨fun _ => 0, fun i hi => by omega⟩
  | n + 1, vs, h => by
    rw [List.replicate_succ] at h
    simp only [Go.Sx.shape] at h
    obtain ⟨v, r, rfl, ⟨x, rfl⟩, h2⟩ := h
    obtain ⟨g, hg⟩ := ints_of n r h2
    refine ⟨fun i => match i with | 0 => x | i + 1 => g i, fun i hi => ?_⟩
    cases i with
    | zero => rfl
    | succ i => simpa using hg i (by omega)
set_option maxRecDepth 100000 in
theorem lifted (os : Os) (started : os.Started) (H : Type) (enc : TypeId × Value → H) :
    ReturnsInHanded {} Try.checked os 4 .any (Rows.auditTellsSpec.pre6 enc Try.prog Try.f4 Rows.auditTellsRow.domain false) (Rows.auditTellsSpec.post enc Try.prog Try.f4 false true false false) := by
  refine returnsInHanded_of_change_sized (C := Try.checked) own started (by kernel_rfl) Try.func4
    (ChangeSpec.witness6 (enc := enc) (C := Try.checked) false ⟨#[], #[.int .i64 0, .slice none 0 0], []⟩ 8 (by kernel_rfl) (by kernel_rfl) (by kernel_rfl) (by kernel_rfl)) ?_
  intro W base args ds gs before hval0 hW hcnd hsz0 _
  have hval : ∀ (j : Nat) t v, Try.f4.params[j]? = some t → args[j]? = some v → Value.okWide Try.prog W .any base t v := hval0
  have hW' := hW
  obtain ⟨p, q, hA0, hV, rfl, hfz, hnd⟩ := hW
  have hA : DataW.TrodAll enc Try.prog W 0 (fun _ => true) true Try.f4.params.toList args.toList ds p := hA0
  rw [Try.params4] at hA hval
  obtain ⟨v0, vs0, d0, ds0, p0, q0, hargs, rfl, rfl, h0, r0⟩ := trodAll_cons hA
  obtain ⟨v2, vs2, d2, ds2, p2, q2, rfl, rfl, rfl, h2, r2⟩ := trodAll_cons r0
  obtain ⟨rfl, rfl, rfl⟩ := trodAll_nil r2
  obtain rfl : args = #[v0, v2] := by cases args; simp_all
  obtain ⟨rfl, rfl⟩ := trodVars_none hV
  obtain ⟨a0, rfl, rfl, rfl, w0⟩ := open_int Try.underlying3 (hval 0 3 v0 rfl rfl) h0
  obtain ⟨a2, len2, cap2, rfl⟩ := okWide_slice Try.underlying27 (hval 1 27 v2 rfl rfl)
  have k2 := h2
  have lt2 : ∀ x ∈ p2, x.block < W.heap.size := by obtain ⟨m, hm⟩ := k2; exact DataW.trod_lt m _ _ _ hm
  obtain ⟨g, hc, hm, ha, hr⟩ : ∃ g : Nat → Nat → Int, len2 ≤ cap2 ∧ cap2 ≤ maxLen ∧ (a2 = none → len2 = 0) ∧
      ∀ j, j < len2 → ∃ blk off, a2 = some ⟨blk, off, none⟩ ∧ blk < W.heap.size ∧ ∀ i, i < 19 → W.cell? ⟨blk, off + j * 19 + i, none⟩ = some (.int .i64 (g j i)) := by
    obtain ⟨fuel, hf⟩ := h2
    rcases Go.Deep.open_slice Try.underlying27 hf with ⟨hcs, _⟩ | ⟨x, l, c, m, n, D, Pl, hcs, _, hl, hmx, hmm, _, hel⟩
    · simp [Value.cells] at hcs
      obtain ⟨rfl, rfl, rfl⟩ := hcs
      exact ⟨fun _ _ => 0, Nat.le_refl _, Nat.zero_le _, fun _ => rfl, fun j hj => by omega⟩
    · simp [Value.cells] at hcs
      obtain ⟨rfl, rfl, rfl⟩ := hcs
      have hcof : Try.prog.cellsOf 37 = 19 := by kernel_rfl
      rw [hcof] at hel
      have hmc : m = cap2 := by simpa using hmm
      have each : ∀ j, ∃ gj : Nat → Int, j < len2 → ∀ i, i < 19 → W.cell? ((x.add (j * 19)).add i) = some (.int .i64 (gj i)) := by
        intro j
        by_cases hj : j < len2
        · obtain ⟨cs', h1, h3⟩ := hel j (by omega)
          obtain ⟨gj, hgj⟩ := ints_of 19 cs' (Go.Sx.trod_shape 40 kinds37 h3)
          refine ⟨gj, fun _ i hi => ?_⟩
          obtain ⟨_, _, hcell⟩ := World.cells?_some h1
          have := hcell i hi
          rw [hgj i hi] at this
          exact this
        · exact ⟨fun _ => 0, fun h => absurd h hj⟩
      obtain ⟨g, hg⟩ : ∃ g : Nat → Nat → Int, ∀ j, j < len2 → ∀ i, i < 19 → W.cell? ((x.add (j * 19)).add i) = some (.int .i64 (g j i)) := ⟨fun j => (each j).choose, fun j hj => (each j).choose_spec hj⟩
      clear each
      refine ⟨g, hl, hmx, fun h => (by cases h), fun j hj => ?_⟩
      have h00 := hg 0 (by omega) 0 (by omega)
      obtain ⟨b, off, spot⟩ := x
      have hspot : spot = none := by simpa [Addr.add] using World.cell?_spot h00
      subst hspot
      simp only [Addr.add_mid] at hg h00
      exact ⟨b, off, rfl, World.block_lt_of_cell? _ _ h00, fun i hi => hg j hj i hi⟩
  clear hA0 hval0 hsz0
  refine (Go.Sx.At.law a0 len2 cap2 g a2 W hc hm ha hr).mono fun e W' ⟨he, bel⟩ => ?_
  subst he
  exact ⟨_, rfl, _, _, _, [], _, [], hW', trodAll_mk1 (shut_bool Try.underlying4 _), (trodAll_cons_mk (shut_int Try.underlying3 w0) (trodAll_cons_mk (Below.trod laidOut (by kernel_rfl) (of_decide_eq_true (by kernel_rfl)) k2 bel lt2) trodAll_mk0)), rfl, bel.frame _, fun h => by cases h⟩
theorem over : Rows.auditTellsRow.holds Try.pinned (OpenSpec.ofChange Rows.auditTellsSpec) :=
  OpenClaim.holds_of_wide 4 Try.f4 rfl rfl rfl rfl rfl rfl rfl ⟨rfl, rfl, rfl, rfl, rfl⟩ rfl rfl rfl rfl rfl (by kernel_rfl) Try.func4 (by kernel_rfl)
    (of_decide_eq_true (by kernel_rfl)) (by unfold Func.isWrapper; first | (rw [if_pos (by decide +kernel)]; kernel_rfl) | (rw [if_neg (by decide +kernel)]; exact ⟨rfl, rfl⟩))
    (fun os started H enc _ => lifted os started H enc)
theorem proved : Rows.AuditTellsSaid := over
end Go.Proofs.Ytijnahgehahokaa.auditTells
namespace Go.Proofs.Ytijnahgehahokaa
/-- The row, under a short name, for the claim. -/
theorem auditTells_holds : Rows.AuditTellsSaid := auditTells.proved
end Go.Proofs.Ytijnahgehahokaa
