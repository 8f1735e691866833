/- What audit's and the document's checks come to, by the runner. -/
import Derived.Test.YtijnahgehahokaaSxTab
import Derived.Test.YtijnahgehahokaaSxTop
import Derived.Test.YtijnahgehahokaaBnWalk
set_option linter.unusedVariables false
set_option linter.unusedSimpArgs false
namespace Go.Sx.At
open Go.Sx Go.Proofs Go.Sx.Bn
set_option maxRecDepth 100000
def rvC (v : Nat → Int) : List SV := [I (v 0), I (v 1), I (v 2), I (v 3), I (v 4), I (v 5), I (v 6), I (v 7), I (v 8), I (v 9), I (v 10), I (v 11), I (v 12), I (v 13), I (v 14), I (v 15), I (v 16), I (v 17), I (v 18)]
def svC (v : Nat → Int) (b : Bool) (t : ByteArray) : List SV := [I (v 0), I (v 1), I (v 2), I (v 3), I (v 4), I (v 5), I (v 6), I (v 7), I (v 8), .v (.bool b), I (v 9), I (v 10), I (v 11), I (v 12), I (v 13), I (v 14), I (v 15), I (v 16), I (v 17), I (v 18), .v (.string t)]
def isL (w : Nat → Int) : List Int := [0, w 10, w 11, w 12, w 15, w 16, 0, 0, 0, 0]
def mayL (w : Nat → Int) : List Int := [0, w 3, w 4, w 5, w 6, w 7, 0, 0, 0, 0]
def hit (v w : Nat → Int) (k : Nat) : Bool :=
  if k = 6 then decide (w 17 > 8) else if k = 7 then decide (w 18 > 8) else if k = 8 then decide (w 9 < 0) || decide (w 9 > w 2) else if k = 9 then w 10 != w 14 || w 11 != w 13
  else decide ((isL w).getD k 0 > if (isL v).getD k 0 > (mayL w).getD k 0 then (isL v).getD k 0 else (mayL w).getD k 0)
def upto (v w : Nat → Int) : Nat → List Int
  | 0 => []
  | k + 1 => if hit v w (k + 1) then upto v w k ++ [((k + 1 : Nat) : Int)] else upto v w k
def chk (v w : Nat → Int) : List Int := if v 0 = 0 ∨ w 0 = 0 then [] else upto v w 9
/-- A row of integers. -/
def rowL (l : List Int) : HB := .row 3 1 l.length (fun j => [I (l.getD j 0)]) l.length
def rsL (l : List Int) : SV := .rs 1 l.length fun j => [I (l.getD j 0)]
def IsL (l : List Int) (r : SV) : Prop := ∃ get, r = .rs 1 l.length get ∧ ∀ j, j < l.length → get j = [I (l.getD j 0)]
theorem IsL.rel {l : List Int} {r : SV} {E : Env} {u : Value} (h : IsL l r) (hr : rel r E u) : rel (rsL l) E u := by
  obtain ⟨get, rfl, hg⟩ := h
  exact rel_rs_congr hg hr
theorem upto_len (v w : Nat → Int) : ∀ k, (upto v w k).length ≤ k
  | 0 => Nat.le_refl _
  | k + 1 => by have := upto_len v w k; simp only [upto]; split <;> simp <;> omega
theorem upto_yes {v w : Nat → Int} {k : Nat} (h : hit v w (k + 1) = true) {get : Nat → List SV} (hg : ∀ j, j < (upto v w k).length → get j = [I ((upto v w k).getD j 0)]) :
    (upto v w k).length + 1 = (upto v w (k + 1)).length ∧ ∀ j, j < (upto v w k).length + 1 → app (upto v w k).length get (chunk [I ((k + 1 : Nat) : Int)] 1) j = [I ((upto v w (k + 1)).getD j 0)] := by
  simp only [upto, h, if_true]
  refine ⟨by simp, fun j hj => ?_⟩
  by_cases h : j < (upto v w k).length
  · have hb : Nat.blt j (upto v w k).length = true := Nat.blt_eq.mpr h
    simp only [app, hb, cond_true, hg j h]
    simp [List.getElem?_append_left h]
  · obtain rfl : j = (upto v w k).length := by omega
    have hb : Nat.blt (upto v w k).length (upto v w k).length = false := by cases h : Nat.blt (upto v w k).length (upto v w k).length with | false => rfl | true => exact absurd (Nat.blt_eq.mp h) (by omega)
    simp [app, hb, chunk]
theorem upto_no {v w : Nat → Int} {k : Nat} (h : hit v w (k + 1) = false) : upto v w (k + 1) = upto v w k := by simp [upto, h]
theorem bool_not {b : Bool} (h : ¬ b = true) : b = false := by cases b <;> simp_all
def jn17 : List (Nat × List Nat) := [(17, [29, 45, 61, 77, 93, 99, 105, 119, 134])]
theorem vc17 (v w : Nat → Int) : runF std (tabJ jn17) noΓ noΔ 2 17 [.a (rvC v), .a (rvC w)] [] (fin std (IsL (chk v w))) := by
  obtain ⟨O, hO⟩ : ∃ O, O = std := ⟨_, rfl⟩
  obtain ⟨rr, hr⟩ : ∃ rr, rr = IsL (chk v w) := ⟨_, rfl⟩
  obtain ⟨ln, hln⟩ : ∃ ln : Nat → Nat, ln = fun k => (upto v w k).length := ⟨_, rfl⟩
  obtain ⟨g, hg⟩ : ∃ g : Nat → Nat → Int, g = fun k j => (upto v w k).getD j 0 := ⟨_, rfl⟩
  have hlen : ∀ k, ln k ≤ k := fun k => by rw [hln]; exact upto_len v w k
  have ln0 : ln 0 = 0 := by rw [hln]; rfl
  have yes : ∀ k, hit v w (k + 1) = true → ∀ get : Nat → List SV, (∀ j, j < ln k → get j = [I (g k j)]) → ln k + 1 = ln (k + 1) ∧ ∀ j, j < ln k + 1 → app (ln k) get (chunk [I ((k + 1 : Nat) : Int)] 1) j = [I (g (k + 1) j)] := by
    intro k h get hget; subst hln hg; exact upto_yes h hget
  have no : ∀ k, hit v w (k + 1) = false → ln k = ln (k + 1) ∧ ∀ j, g k j = g (k + 1) j := by
    intro k h; subst hln hg; simp only [upto_no h]; exact ⟨trivial, fun _ => trivial⟩
  rw [← hO, ← hr]
  cbv
  refine ⟨⟨fun _ => trivial, trivial⟩, fun h => ?_, fun h => ?_⟩
  · subst hO
    refine ⟨rfl, ?_⟩
    have h' : v 0 = 0 ∨ w 0 = 0 := by simpa [std] using h
    rw [hr, chk, if_pos h']; exact ⟨_, rfl, fun j hj => by simp at hj⟩
  have h0 : ¬ (v 0 = 0 ∨ w 0 = 0) := by subst hO; simpa [std] using h
  clear h
  refine ⟨Unit, fun _ => [(5, .o 3 (ln 1)), (2, .p 0 0), (3, .p 1 0)], fun _ => [.cells (rvC v) 37, .cells (rvC w) 37, .gone, .row 3 1 (ln 1) (fun j => [I (g 1 j)]) (ln 1)], fun i => by cbv, ?_, fun _ => ?_⟩
  · cbv
    have hl := hlen 0
    refine ⟨⟨fun _ => trivial, trivial⟩, ⟨fun h => ?_, fun h => ?_⟩⟩
    · have hk : hit v w 1 = true := by
        subst hO
        simp [std, hit, isL, mayL] at h ⊢
        split <;> omega
      obtain ⟨e1, e2⟩ := yes 0 hk (fun _ => []) (fun j hj => by omega)
      subst hO
      refine ⟨rfl, ⟨by simp only [std, maxLen]; omega, by simp only [std]; omega⟩, (), ⟨congrArg (SV.o 3) (by rw [ln0] at e1; exact e1), rfl, rfl, trivial⟩, ⟨rfl, rfl⟩, ⟨rfl, rfl⟩, trivial, ⟨rfl, rfl, (by rw [ln0] at e1; exact e1), (by rw [ln0] at e1; exact e1), (by rw [ln0] at e2; exact fun j hj => e2 j hj)⟩, trivial⟩
    · have hk : hit v w 1 = false := by
        subst hO
        refine bool_not fun hh => ?_
        simp [std, hit, isL, mayL] at h hh
        split at hh <;> omega
      obtain ⟨e1, e2⟩ := no 0 hk
      exact ⟨(), ⟨congrArg (SV.o 3) (by rw [ln0] at e1; exact e1), rfl, rfl, trivial⟩, ⟨rfl, rfl⟩, ⟨rfl, rfl⟩, trivial, ⟨rfl, rfl, (by rw [ln0] at e1; exact e1), (by rw [ln0] at e1; exact e1), (fun j hj => by omega)⟩, trivial⟩
  refine ⟨Unit, fun _ => [(5, .o 3 (ln 2)), (2, .p 0 0), (3, .p 1 0)], fun _ => [.cells (rvC v) 37, .cells (rvC w) 37, .gone, .row 3 1 (ln 2) (fun j => [I (g 2 j)]) (ln 2)], fun i => by cbv, ?_, fun _ => ?_⟩
  · cbv
    have hl := hlen 1
    refine ⟨⟨fun _ => trivial, trivial⟩, ⟨fun h => ?_, fun h => ?_⟩⟩
    · have hk : hit v w 2 = true := by
        subst hO
        simp [std, hit, isL, mayL] at h ⊢
        split <;> omega
      obtain ⟨e1, e2⟩ := yes 1 hk (fun j => [I (g 1 j)]) (fun j _ => rfl)
      subst hO
      refine ⟨rfl, ⟨by simp only [std, maxLen]; omega, by simp only [std]; omega⟩, (), ⟨congrArg (SV.o 3) e1, rfl, rfl, trivial⟩, ⟨rfl, rfl⟩, ⟨rfl, rfl⟩, trivial, ⟨rfl, rfl, e1, e1, (fun j hj => e2 j hj)⟩, trivial⟩
    · have hk : hit v w 2 = false := by
        subst hO
        refine bool_not fun hh => ?_
        simp [std, hit, isL, mayL] at h hh
        split at hh <;> omega
      obtain ⟨e1, e2⟩ := no 1 hk
      exact ⟨(), ⟨congrArg (SV.o 3) e1, rfl, rfl, trivial⟩, ⟨rfl, rfl⟩, ⟨rfl, rfl⟩, trivial, ⟨rfl, rfl, e1, e1, (fun j _ => congrArg (fun x => [I x]) (e2 j))⟩, trivial⟩
  refine ⟨Unit, fun _ => [(5, .o 3 (ln 3)), (2, .p 0 0), (3, .p 1 0)], fun _ => [.cells (rvC v) 37, .cells (rvC w) 37, .gone, .row 3 1 (ln 3) (fun j => [I (g 3 j)]) (ln 3)], fun i => by cbv, ?_, fun _ => ?_⟩
  · cbv
    have hl := hlen 2
    refine ⟨⟨fun _ => trivial, trivial⟩, ⟨fun h => ?_, fun h => ?_⟩⟩
    · have hk : hit v w 3 = true := by
        subst hO
        simp [std, hit, isL, mayL] at h ⊢
        split <;> omega
      obtain ⟨e1, e2⟩ := yes 2 hk (fun j => [I (g 2 j)]) (fun j _ => rfl)
      subst hO
      refine ⟨rfl, ⟨by simp only [std, maxLen]; omega, by simp only [std]; omega⟩, (), ⟨congrArg (SV.o 3) e1, rfl, rfl, trivial⟩, ⟨rfl, rfl⟩, ⟨rfl, rfl⟩, trivial, ⟨rfl, rfl, e1, e1, (fun j hj => e2 j hj)⟩, trivial⟩
    · have hk : hit v w 3 = false := by
        subst hO
        refine bool_not fun hh => ?_
        simp [std, hit, isL, mayL] at h hh
        split at hh <;> omega
      obtain ⟨e1, e2⟩ := no 2 hk
      exact ⟨(), ⟨congrArg (SV.o 3) e1, rfl, rfl, trivial⟩, ⟨rfl, rfl⟩, ⟨rfl, rfl⟩, trivial, ⟨rfl, rfl, e1, e1, (fun j _ => congrArg (fun x => [I x]) (e2 j))⟩, trivial⟩
  refine ⟨Unit, fun _ => [(5, .o 3 (ln 4)), (2, .p 0 0), (3, .p 1 0)], fun _ => [.cells (rvC v) 37, .cells (rvC w) 37, .gone, .row 3 1 (ln 4) (fun j => [I (g 4 j)]) (ln 4)], fun i => by cbv, ?_, fun _ => ?_⟩
  · cbv
    have hl := hlen 3
    refine ⟨⟨fun _ => trivial, trivial⟩, ⟨fun h => ?_, fun h => ?_⟩⟩
    · have hk : hit v w 4 = true := by
        subst hO
        simp [std, hit, isL, mayL] at h ⊢
        split <;> omega
      obtain ⟨e1, e2⟩ := yes 3 hk (fun j => [I (g 3 j)]) (fun j _ => rfl)
      subst hO
      refine ⟨rfl, ⟨by simp only [std, maxLen]; omega, by simp only [std]; omega⟩, (), ⟨congrArg (SV.o 3) e1, rfl, rfl, trivial⟩, ⟨rfl, rfl⟩, ⟨rfl, rfl⟩, trivial, ⟨rfl, rfl, e1, e1, (fun j hj => e2 j hj)⟩, trivial⟩
    · have hk : hit v w 4 = false := by
        subst hO
        refine bool_not fun hh => ?_
        simp [std, hit, isL, mayL] at h hh
        split at hh <;> omega
      obtain ⟨e1, e2⟩ := no 3 hk
      exact ⟨(), ⟨congrArg (SV.o 3) e1, rfl, rfl, trivial⟩, ⟨rfl, rfl⟩, ⟨rfl, rfl⟩, trivial, ⟨rfl, rfl, e1, e1, (fun j _ => congrArg (fun x => [I x]) (e2 j))⟩, trivial⟩
  refine ⟨Unit, fun _ => [(5, .o 3 (ln 5)), (2, .p 0 0), (3, .p 1 0)], fun _ => [.cells (rvC v) 37, .cells (rvC w) 37, .gone, .row 3 1 (ln 5) (fun j => [I (g 5 j)]) (ln 5)], fun i => by cbv, ?_, fun _ => ?_⟩
  · cbv
    have hl := hlen 4
    refine ⟨⟨fun _ => trivial, trivial⟩, ⟨fun h => ?_, fun h => ?_⟩⟩
    · have hk : hit v w 5 = true := by
        subst hO
        simp [std, hit, isL, mayL] at h ⊢
        split <;> omega
      obtain ⟨e1, e2⟩ := yes 4 hk (fun j => [I (g 4 j)]) (fun j _ => rfl)
      subst hO
      refine ⟨rfl, ⟨by simp only [std, maxLen]; omega, by simp only [std]; omega⟩, (), ⟨congrArg (SV.o 3) e1, rfl, rfl, trivial⟩, ⟨rfl, rfl⟩, ⟨rfl, rfl⟩, trivial, ⟨rfl, rfl, e1, e1, (fun j hj => e2 j hj)⟩, trivial⟩
    · have hk : hit v w 5 = false := by
        subst hO
        refine bool_not fun hh => ?_
        simp [std, hit, isL, mayL] at h hh
        split at hh <;> omega
      obtain ⟨e1, e2⟩ := no 4 hk
      exact ⟨(), ⟨congrArg (SV.o 3) e1, rfl, rfl, trivial⟩, ⟨rfl, rfl⟩, ⟨rfl, rfl⟩, trivial, ⟨rfl, rfl, e1, e1, (fun j _ => congrArg (fun x => [I x]) (e2 j))⟩, trivial⟩
  refine ⟨Unit, fun _ => [(5, .o 3 (ln 6)), (2, .p 0 0), (3, .p 1 0)], fun _ => [.cells (rvC v) 37, .cells (rvC w) 37, .gone, .row 3 1 (ln 6) (fun j => [I (g 6 j)]) (ln 6)], fun i => by cbv, ?_, fun _ => ?_⟩
  · cbv
    have hl := hlen 5
    refine ⟨fun h => ?_, fun h => ?_⟩
    · have hk : hit v w 6 = true := by
        subst hO
        simp [std, hit, isL, mayL] at h ⊢
        omega
      obtain ⟨e1, e2⟩ := yes 5 hk (fun j => [I (g 5 j)]) (fun j _ => rfl)
      subst hO
      refine ⟨rfl, ⟨by simp only [std, maxLen]; omega, by simp only [std]; omega⟩, (), ⟨congrArg (SV.o 3) e1, rfl, rfl, trivial⟩, ⟨rfl, rfl⟩, ⟨rfl, rfl⟩, trivial, ⟨rfl, rfl, e1, e1, (fun j hj => e2 j hj)⟩, trivial⟩
    · have hk : hit v w 6 = false := by
        subst hO
        refine bool_not fun hh => ?_
        simp [std, hit, isL, mayL] at h hh
        omega
      obtain ⟨e1, e2⟩ := no 5 hk
      exact ⟨(), ⟨congrArg (SV.o 3) e1, rfl, rfl, trivial⟩, ⟨rfl, rfl⟩, ⟨rfl, rfl⟩, trivial, ⟨rfl, rfl, e1, e1, (fun j _ => congrArg (fun x => [I x]) (e2 j))⟩, trivial⟩
  refine ⟨Unit, fun _ => [(5, .o 3 (ln 7)), (2, .p 0 0), (3, .p 1 0)], fun _ => [.cells (rvC v) 37, .cells (rvC w) 37, .gone, .row 3 1 (ln 7) (fun j => [I (g 7 j)]) (ln 7)], fun i => by cbv, ?_, fun _ => ?_⟩
  · cbv
    have hl := hlen 6
    refine ⟨fun h => ?_, fun h => ?_⟩
    · have hk : hit v w 7 = true := by
        subst hO
        simp [std, hit, isL, mayL] at h ⊢
        omega
      obtain ⟨e1, e2⟩ := yes 6 hk (fun j => [I (g 6 j)]) (fun j _ => rfl)
      subst hO
      refine ⟨rfl, ⟨by simp only [std, maxLen]; omega, by simp only [std]; omega⟩, (), ⟨congrArg (SV.o 3) e1, rfl, rfl, trivial⟩, ⟨rfl, rfl⟩, ⟨rfl, rfl⟩, trivial, ⟨rfl, rfl, e1, e1, (fun j hj => e2 j hj)⟩, trivial⟩
    · have hk : hit v w 7 = false := by
        subst hO
        refine bool_not fun hh => ?_
        simp [std, hit, isL, mayL] at h hh
        omega
      obtain ⟨e1, e2⟩ := no 6 hk
      exact ⟨(), ⟨congrArg (SV.o 3) e1, rfl, rfl, trivial⟩, ⟨rfl, rfl⟩, ⟨rfl, rfl⟩, trivial, ⟨rfl, rfl, e1, e1, (fun j _ => congrArg (fun x => [I x]) (e2 j))⟩, trivial⟩
  refine ⟨Unit, fun _ => [(5, .o 3 (ln 8)), (2, .p 0 0), (3, .p 1 0)], fun _ => [.cells (rvC v) 37, .cells (rvC w) 37, .gone, .row 3 1 (ln 8) (fun j => [I (g 8 j)]) (ln 8)], fun i => by cbv, ?_, fun _ => ?_⟩
  · cbv
    have hl := hlen 7
    refine ⟨⟨fun _ => trivial, trivial⟩, ⟨fun h => ?_, fun h => ?_⟩⟩
    · have hk : hit v w 8 = true := by
        subst hO
        simp [std, hit, isL, mayL] at h ⊢
        omega
      obtain ⟨e1, e2⟩ := yes 7 hk (fun j => [I (g 7 j)]) (fun j _ => rfl)
      subst hO
      refine ⟨rfl, ⟨by simp only [std, maxLen]; omega, by simp only [std]; omega⟩, (), ⟨congrArg (SV.o 3) e1, rfl, rfl, trivial⟩, ⟨rfl, rfl⟩, ⟨rfl, rfl⟩, trivial, ⟨rfl, rfl, e1, e1, (fun j hj => e2 j hj)⟩, trivial⟩
    · have hk : hit v w 8 = false := by
        subst hO
        refine bool_not fun hh => ?_
        simp [std, hit, isL, mayL] at h hh
        omega
      obtain ⟨e1, e2⟩ := no 7 hk
      exact ⟨(), ⟨congrArg (SV.o 3) e1, rfl, rfl, trivial⟩, ⟨rfl, rfl⟩, ⟨rfl, rfl⟩, trivial, ⟨rfl, rfl, e1, e1, (fun j _ => congrArg (fun x => [I x]) (e2 j))⟩, trivial⟩
  refine ⟨Unit, fun _ => [(5, .o 3 (ln 9)), (2, .p 0 0), (3, .p 1 0)], fun _ => [.cells (rvC v) 37, .cells (rvC w) 37, .gone, .row 3 1 (ln 9) (fun j => [I (g 9 j)]) (ln 9)], fun i => by cbv, ?_, fun _ => ?_⟩
  · cbv
    have hl := hlen 8
    refine ⟨⟨fun _ => trivial, trivial⟩, ⟨fun h => ?_, fun h => ?_⟩⟩
    · have hk : hit v w 9 = true := by
        subst hO
        simp [std, hit, isL, mayL] at h ⊢
        simpa [Decidable.imp_iff_not_or] using h
      obtain ⟨e1, e2⟩ := yes 8 hk (fun j => [I (g 8 j)]) (fun j _ => rfl)
      subst hO
      refine ⟨rfl, ⟨by simp only [std, maxLen]; omega, by simp only [std]; omega⟩, (), ⟨congrArg (SV.o 3) e1, rfl, rfl, trivial⟩, ⟨rfl, rfl⟩, ⟨rfl, rfl⟩, trivial, ⟨rfl, rfl, e1, e1, (fun j hj => e2 j hj)⟩, trivial⟩
    · have hk : hit v w 9 = false := by
        subst hO
        refine bool_not fun hh => ?_
        simp [std, hit, isL, mayL] at h hh
        omega
      obtain ⟨e1, e2⟩ := no 8 hk
      exact ⟨(), ⟨congrArg (SV.o 3) e1, rfl, rfl, trivial⟩, ⟨rfl, rfl⟩, ⟨rfl, rfl⟩, trivial, ⟨rfl, rfl, e1, e1, (fun j _ => congrArg (fun x => [I x]) (e2 j))⟩, trivial⟩
  cbv
  subst hO hln hg
  refine ⟨rfl, ?_⟩
  rw [hr, chk, if_neg h0]; exact ⟨_, rfl, fun j _ => rfl⟩
end Go.Sx.At
