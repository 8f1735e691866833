/- BoundNumbers: the law's own function, by the runner. -/
import Derived.Test.YtijnahgehahokaaBnWalk
set_option linter.unusedVariables false
set_option linter.unusedSimpArgs false
namespace Go.Sx.Bn
open Go.Sx Go.Proofs Go.RowKit
set_option maxRecDepth 100000
def toI (l : List SV) : Int := match l with | [.v (.int _ x)] => x | _ => 0
def Γ3 (mo : Int → Int → Nat → (Nat → Int) → Int) (ti : List SV → Int) (wi : Int → Int → Int → Int) (cl rd : Int → Int) : Known := fun f a => match f, a with
  | 10, [.v (.int .i64 b), .v (.int .i64 q), .rs 1 n g] => some (.int .i64 (mo b q n fun j => ti (g j)), n ≤ 9223372036854775807 ∧ ∀ j, j < n → g j = [I (ti (g j))])
  | 11, [.v (.int .i64 b), .v (.int .i64 q), .rs 1 n g] => some (.int .i64 (mo b q n fun j => ti (g j)), n ≤ 9223372036854775807 ∧ ∀ j, j < n → g j = [I (ti (g j))])
  | f, a => Γ2 wi cl rd f a
theorem relL_args {b q : Value} {n : Nat} {g g' : Nat → List SV} (h : ∀ j, j < n → g j = g' j) {E : Env} {us : List Value} (hr : relL [.v b, .v q, .rs 1 n g] E us) : relL [.v b, .v q, .rs 1 n g'] E us := by
  simp only [relL] at hr ⊢
  obtain ⟨y, ys, rfl, h1, y2, ys2, rfl, h2, y3, ys3, rfl, h3, rfl⟩ := hr
  exact ⟨y, _, rfl, h1, y2, _, rfl, h2, y3, _, rfl, rel_rs_congr h h3, rfl⟩
theorem Γ3_ok : KnownOk Try.prog (Γ3 most toI wi clamp rnd) := by
  have h2 := runF_ok tab_ok Γ2_ok noΔ_ok 2
  refine ⟨fun f args x sc h => ?_, fun f args x sc h => ?_⟩
  · unfold Γ3 at h
    split at h
    · simp only [Option.some.injEq, Prod.mk.injEq] at h
      obtain ⟨rfl, rfl⟩ := h
      exact fun hsc _ E vals hr hlt => (known_ok h2 (vc10 _ _ _ hsc.1 _)).2 rfl E vals (relL_args hsc.2 hr) hlt
    · simp only [Option.some.injEq, Prod.mk.injEq] at h
      obtain ⟨rfl, rfl⟩ := h
      exact fun hsc _ E vals hr hlt => (known_ok h2 (vc11 _ _ _ hsc.1 _)).2 rfl E vals (relL_args hsc.2 hr) hlt
    · exact Γ2_ok.calls _ _ x sc h
  · unfold Γ3 at h
    split at h
    · exact ⟨_, Try.func10, rfl, rfl⟩
    · exact ⟨_, Try.func11, rfl, rfl⟩
    · exact Γ2_ok.callable _ _ x sc h
theorem vc12 : runF std tab (Γ3 most toI wi clamp rnd) noΔ 2 12 [] [] (fin std fun r => r = .v (.bool true)) := by
  obtain ⟨O, hO⟩ : ∃ O, O = std := ⟨_, rfl⟩
  obtain ⟨w, hw⟩ : ∃ w, w = wi := ⟨_, rfl⟩
  obtain ⟨c, hc⟩ : ∃ c, c = clamp := ⟨_, rfl⟩
  obtain ⟨r, hr⟩ : ∃ r, r = rnd := ⟨_, rfl⟩
  obtain ⟨mo, hmo⟩ : ∃ m, m = most := ⟨_, rfl⟩
  obtain ⟨ti, hti⟩ : ∃ t, t = toI := ⟨_, rfl⟩
  rw [← hO, ← hw, ← hc, ← hr, ← hmo, ← hti]
  cbv
  subst hO hw hc hr hmo hti
  have e1 : rnd 1040 = 130 := by decide
  have e2 : ∀ j, j < 2 → chunk [I 1040, I 1040] 1 j = [I (toI (chunk [I 1040, I 1040] 1 j))] := by
    intro j hj
    have : j = 0 ∨ j = 1 := by omega
    rcases this with rfl | rfl <;> rfl
  have e3 : most 16 1040 2 (fun j => toI (chunk [I 1040, I 1040] 1 j)) = 780 := by decide
  refine ⟨fun _ => ⟨e2, ?_⟩, fun h => ?_⟩
  · simp [std, e3]
  · simp [std, e1] at h
theorem Γ4_ok : KnownOk Try.prog (fun f a => match f, a with | 12, [] => some (.bool true, True) | f, a => Γ3 most toI wi clamp rnd f a) := by
  have h2 := runF_ok tab_ok Γ3_ok noΔ_ok 2
  refine ⟨fun f args x sc h => ?_, fun f args x sc h => ?_⟩
  · split at h
    · simp only [Option.some.injEq, Prod.mk.injEq] at h
      obtain ⟨rfl, rfl⟩ := h
      exact fun _ hs E vals hr hlt => (known_ok h2 vc12).2 hs E vals hr hlt
    · exact Γ3_ok.calls _ _ x sc h
  · split at h
    · exact ⟨_, Try.func12, rfl, rfl⟩
    · exact Γ3_ok.callable _ _ x sc h
theorem vc3 (b q : Int) (n : Nat) (hn : n ≤ 9223372036854775807) (g : Nat → Int) : runF std tab (fun f a => match f, a with | 12, [] => some (.bool true, True) | f, a => Γ3 most toI wi clamp rnd f a) noΔ 2 3 [I b, I q, .rs 1 n fun j => [I (g j)]] [] (fin std fun r => r = .v (.bool true)) := by
  obtain ⟨O, hO⟩ : ∃ O, O = std := ⟨_, rfl⟩
  obtain ⟨w, hw⟩ : ∃ w, w = wi := ⟨_, rfl⟩
  obtain ⟨c, hc⟩ : ∃ c, c = clamp := ⟨_, rfl⟩
  obtain ⟨r, hr⟩ : ∃ r, r = rnd := ⟨_, rfl⟩
  obtain ⟨mo, hmo⟩ : ∃ m, m = most := ⟨_, rfl⟩
  obtain ⟨ti, hti⟩ : ∃ t, t = toI := ⟨_, rfl⟩
  rw [← hO, ← hw, ← hc, ← hr, ← hmo, ← hti]
  cbv
  subst hO hw hc hr hmo hti
  have e : ∀ j, j < n → [I (g j)] = [I (toI [I (g j)])] := fun j _ => rfl
  refine ⟨⟨fun _ => ⟨⟨hn, e⟩, ⟨hn, e⟩, trivial⟩, trivial⟩, ⟨fun _ => trivial, trivial⟩, ?_⟩
  simp [std]
/-- THE LAW's FUNCTION answers true. -/
theorem law (b q : Int) (n cap : Nat) (g : Nat → Int) (a : Option Addr) (W : World) (hc : n ≤ cap) (hm : cap ≤ maxLen) (ha : a = none → n = 0)
    (hr : ∀ j, j < n → ∃ blk off, a = some ⟨blk, off, none⟩ ∧ blk < W.heap.size ∧ W.cell? ⟨blk, off + j, none⟩ = some (.int .i64 (g j))) :
    Calls Try.prog 3 #[.int .i64 b, .int .i64 q, .slice a n cap] W fun e w' => e = .returned (.bool true) ∧ Below W.heap.size W w' := by
  have hn : n ≤ 9223372036854775807 := by unfold maxLen at hm; omega
  refine law_calls (runF_ok tab_ok Γ4_ok noΔ_ok 2) (args := [I b, I q, .rs 1 n fun j => [I (g j)]]) (vals := [.int .i64 b, .int .i64 q, .slice a n cap]) rfl (vc3 b q n hn g) ?_
  simp only [relL]
  refine ⟨_, _, rfl, by simp only [rel], _, _, rfl, by simp only [rel], _, _, rfl, ?_, rfl⟩
  simp only [rel]
  refine ⟨a, cap, rfl, hc, hm, ha, fun j hj => ?_⟩
  obtain ⟨blk, off, h1, h2, h3⟩ := hr j hj
  refine ⟨blk, off, [.int .i64 (g j)], h1, ⟨h2, fun h => h⟩, ?_, rfl, ?_, ?_⟩
  · simp only [relL]
    exact ⟨_, _, rfl, by simp only [rel], rfl⟩
  · intro k u hu
    cases k with
    | zero => simp at hu; subst hu; simpa [start] using h3
    | succ k => simp at hu
  · intro u hu
    simp at hu; subst hu; rfl
end Go.Sx.Bn
