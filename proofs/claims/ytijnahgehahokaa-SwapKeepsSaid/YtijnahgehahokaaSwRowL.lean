/- Swap: the laws' functions, called. -/
import Derived.Test.YtijnahgehahokaaSwKeep
set_option linter.unusedVariables false
namespace Go.Sx.Sw
open Go.Sx Go.Proofs Go.Sx.Bn Go.RowKit
def evV (K C U : Nat → Int) (B : FB) (j : Nat) : List Value := [.int .i64 (K j), .int .i64 (C j), .int .u64 (U j), .string (B j)]
def swV (cs ns : Nat → Int) (ys : FB) (j : Nat) : List Value := [.int .i64 (cs j), .int .i64 (ns j), .string (ys j)]
theorem rel_row {W : World} {sz n cap : Nat} {a : Option Addr} {get : Nat → List SV} {us : Nat → List Value} (hc : n ≤ cap) (hm : cap ≤ maxLen) (ha : a = none → n = 0)
    (hr : ∀ j, j < n → ∃ blk off, a = some ⟨blk, off, none⟩ ∧ blk < W.heap.size ∧ ∀ i v, (us j)[i]? = some v → W.cell? ⟨blk, off + j * sz + i, none⟩ = some v)
    (hg : ∀ j, j < n → relL (get j) (start W).pl (us j) ∧ (us j).length = sz ∧ ∀ u, u ∈ us j → u.oneCell' = true) : rel (.rs sz n get) (start W) (.slice a n cap) := by
  simp only [rel]
  refine ⟨a, cap, rfl, hc, hm, ha, fun j hj => ?_⟩
  obtain ⟨blk, off, h1, h2, h3⟩ := hr j hj
  obtain ⟨g1, g2, g3⟩ := hg j hj
  exact ⟨blk, off, us j, h1, ⟨h2, fun h => h⟩, g1, g2, h3, g3⟩
theorem rel_ev {W : World} {n cap : Nat} {a : Option Addr} (K C U : Nat → Int) (B : FB) (hc : n ≤ cap) (hm : cap ≤ maxLen) (ha : a = none → n = 0)
    (hr : ∀ j, j < n → ∃ blk off, a = some ⟨blk, off, none⟩ ∧ blk < W.heap.size ∧ ∀ i v, (evV K C U B j)[i]? = some v → W.cell? ⟨blk, off + j * 4 + i, none⟩ = some v) : rel (.rs 4 n (evC K C U B)) (start W) (.slice a n cap) := by
  refine rel_row hc hm ha hr fun j _ => ⟨?_, rfl, ?_⟩
  · unfold evC evV
    repeat (first | exact relL_nil _ | refine relL_cons (by simp only [rel]) ?_)
  · intro u hu
    simp only [evV, List.mem_cons, List.mem_nil_iff, or_false] at hu
    rcases hu with rfl | rfl | rfl | rfl <;> rfl
theorem rel_sw {W : World} {n cap : Nat} {a : Option Addr} (cs ns : Nat → Int) (ys : FB) (hc : n ≤ cap) (hm : cap ≤ maxLen) (ha : a = none → n = 0)
    (hr : ∀ j, j < n → ∃ blk off, a = some ⟨blk, off, none⟩ ∧ blk < W.heap.size ∧ ∀ i v, (swV cs ns ys j)[i]? = some v → W.cell? ⟨blk, off + j * 3 + i, none⟩ = some v) : rel (.rs 3 n (swC cs ns ys)) (start W) (.slice a n cap) := by
  refine rel_row hc hm ha hr fun j _ => ⟨?_, rfl, ?_⟩
  · unfold swC swV
    repeat (first | exact relL_nil _ | refine relL_cons (by simp only [rel]) ?_)
  · intro u hu
    simp only [swV, List.mem_cons, List.mem_nil_iff, or_false] at hu
    rcases hu with rfl | rfl | rfl <;> rfl
theorem law5 {W : World} {K C U cs ns : Nat → Int} {B ys : FB} {n m cap cap2 : Nat} {a a2 : Option Addr} (hn0 : n ≤ 140737488355328) (hB : ∀ i, i < n → (B i).size ≤ 140737488355328) (hm0 : m ≤ 140737488355328) (hy : ∀ i, i < m → (ys i).size ≤ 140737488355328)
    (h1 : rel (.rs 4 n (evC K C U B)) (start W) (.slice a n cap)) (h2 : rel (.rs 3 m (swC cs ns ys)) (start W) (.slice a2 m cap2)) :
    Calls Try.prog 5 #[.slice a n cap, .slice a2 m cap2] W fun e w' => e = .returned (.bool true) ∧ Below W.heap.size W w' := by
  refine law_calls (runF_ok tab_ok noΓ_ok ΔL_ok 2) (args := [.rs 4 n (evC K C U B), .rs 3 m (swC cs ns ys)]) (vals := [.slice a n cap, .slice a2 m cap2]) rfl (vc5 K C U B n hn0 hB cs ns ys m hm0 hy) ?_
  simp only [relL]
  exact ⟨_, _, rfl, h1, _, _, rfl, h2, rfl⟩
theorem law6 {W : World} {K C U cs ns : Nat → Int} {B ys : FB} {n m cap cap2 : Nat} {a a2 : Option Addr} (hn0 : n ≤ 140737488355328) (hB : ∀ i, i < n → (B i).size ≤ 140737488355328) (hm0 : m ≤ 140737488355328) (hy : ∀ i, i < m → (ys i).size ≤ 140737488355328)
    (h1 : rel (.rs 4 n (evC K C U B)) (start W) (.slice a n cap)) (h2 : rel (.rs 3 m (swC cs ns ys)) (start W) (.slice a2 m cap2)) :
    Calls Try.prog 6 #[.slice a n cap, .slice a2 m cap2] W fun e w' => e = .returned (.bool true) ∧ Below W.heap.size W w' := by
  refine law_calls (runF_ok tab_ok noΓ_ok ΔK_ok 2) (args := [.rs 4 n (evC K C U B), .rs 3 m (swC cs ns ys)]) (vals := [.slice a n cap, .slice a2 m cap2]) rfl (vc6 K C U B n hn0 hB cs ns ys m hm0 hy) ?_
  simp only [relL]
  exact ⟨_, _, rfl, h1, _, _, rfl, h2, rfl⟩
end Go.Sx.Sw
