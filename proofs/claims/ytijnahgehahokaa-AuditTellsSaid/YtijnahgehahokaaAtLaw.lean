/- AuditTells: the law's own function, by the runner. -/
import Derived.Test.YtijnahgehahokaaAtOf
set_option linter.unusedVariables false
set_option linter.unusedSimpArgs false
namespace Go.Sx.At
open Go.Sx Go.Proofs Go.Sx.Bn Go.RowKit
set_option maxRecDepth 100000
def exA : VF := fun i => [1040, 0, 0, 0, 0, 2].getD i 0
def exB : VF := fun i => [1040, 0, 0, 0, 0, 2, 0, 0, 0, 0, 0, 0, 3].getD i 0
theorem vc13 : runF std tab noΓ (Δ1 chkL chkI) 2 13 [] [] (fin std fun r => r = .v (.bool true)) := by
  obtain ⟨O, hO⟩ : ∃ O, O = std := ⟨_, rfl⟩
  obtain ⟨cl, hcl⟩ : ∃ c, c = chkL := ⟨_, rfl⟩
  obtain ⟨ci, hci⟩ : ∃ c, c = chkI := ⟨_, rfl⟩
  obtain ⟨v, hv⟩ : ∃ v, v = exA := ⟨_, rfl⟩
  obtain ⟨w, hw⟩ : ∃ w, w = exB := ⟨_, rfl⟩
  rw [← hO, ← hcl, ← hci]
  cbv
  refine ⟨v, w, false, false, ⟨#[]⟩, ⟨#[]⟩, by rw [hv, hw]; rfl, ?_⟩
  cbv
  have e1 : cl v w = 1 := by rw [hcl, hv, hw]; decide
  have e2 : ci v w 0 = 3 := by rw [hci, hv, hw]; decide
  subst hO
  have e3 : ci v w (std.nat 0) = 3 := e2
  simp only [std] at e3
  simp [std, e1, e2, e3]
theorem vc15 (n : Nat) (hn : n ≤ 9) (g : Nat → Int) : runF std tab noΓ noΔ 2 15 [.rs 1 n fun j => [I (g j)], .rs 1 n fun j => [I (g j)]] [] (fin std fun r => r = .v (.bool true)) := by
  obtain ⟨O, hO⟩ : ∃ O, O = std := ⟨_, rfl⟩
  obtain ⟨c, hc⟩ : ∃ p : Nat → Int, p = castI := ⟨_, rfl⟩
  rw [← hO]
  cbv
  refine ⟨fun h => by subst hO; simp [std] at h, fun h => ?_⟩
  refine ⟨{k : Nat // k ≤ n}, fun k => [(5, I (c k.1)), (0, .rs 1 n fun j => [I (g j)]), (1, .rs 1 n fun j => [I (g j)])], fun _ => [], fun k => n - k.1, ⟨0, by omega⟩, fun k => by cbv, ?_, by cbv, fun k => ?_⟩
  · exact ⟨congrArg (fun x => I x) (by rw [hc]; rfl), rfl, rfl, trivial⟩
  · obtain ⟨k, hk⟩ := k
    cbv
    subst hO
    have hck : c k = (k : Int) := by rw [hc]; rfl
    have hck1 : c (k + 1) = (k : Int) + 1 := by rw [hc]; rfl
    refine ⟨fun hlt => ?_, fun _ => trivial⟩
    have hk' : k < n := by simp [std, hck] at hlt; omega
    have hi : std.20 (c k) n := by rw [hck]; simp only [std]; omega
    refine ⟨⟨hi, hi, trivial⟩, fun hne => ?_, fun _ => ⟨⟨k + 1, by omega⟩, ⟨congrArg (fun x => I x) ?_, rfl, rfl, trivial⟩, trivial, by simp only; omega⟩⟩
    · simp [std] at hne
    · show std.1 BinOp.add IntKind.i64 (c k) 1 = c (k + 1)
      rw [hck, hck1]; simp only [std]; rw [wrap_of (by omega) (by omega)]
/-- The findings' numbers. -/
def ol (f : Nat → VF) (n : Nat) : Nat := pl f (n - 1) 0
def oa (f : Nat → VF) (n j : Nat) : Int := pa f (n - 1) 0 j
def ow (f : Nat → VF) (n j : Nat) : Int := pw f (n - 1) 0 j
theorem ol_le (f : Nat → VF) (n : Nat) (hn : n ≤ 200) : ol f n ≤ 2000 := by have := part_len f (n - 1) 0; unfold ol pl; omega
def Δ2 (cl : VF → VF → Nat) (ci : VF → VF → Nat → Int) (ol : (Nat → VF) → Nat → Nat) (oa ow : (Nat → VF) → Nat → Nat → Int) : Contracts := fun f => match f with
  | 13 => some (Spec.con fun args κ => args = [] ∧ κ (.v (.bool true)))
  | 15 => some (Spec.con fun args κ => ∃ (n : Nat) (g : Nat → Int), args = [.rs 1 n fun j => [I (g j)], .rs 1 n fun j => [I (g j)]] ∧ n ≤ 9 ∧ κ (.v (.bool true)))
  | 18 => some (Spec.con fun args κ => ∃ (o : Int) (n : Nat) (f : Nat → VF) (b : Bool) (t : ByteArray), args = [I o, .rs 21 n fun j => svC (f j) b t] ∧ n ≤ 200 ∧ κ (.rs 3 (ol f n) fun j => [I (oa f n j), I o, I (ow f n j)]))
  | 19 => some (Spec.con fun args κ => ∃ (o : Int) (n : Nat) (f : Nat → VF), args = [I o, .rs 19 n fun j => rvC (f j)] ∧ n ≤ 200 ∧ κ (.rs 3 (ol f n) fun j => [I (oa f n j), I o, I (ow f n j)]))
  | f => Δ1 cl ci f
theorem Δ2_ok : ContractsOk Try.prog (Δ2 chkL chkI ol oa ow) := by
  have h1 := runF_ok tab_ok noΓ_ok Δ1_ok 2
  constructor
  intro f m hm
  unfold Δ2 at hm
  split at hm
  · cases hm
    refine contract_ok2 h1 ?_
    rintro args κ ⟨rfl, hκ⟩
    exact ⟨rfl, _, _, vc13, fun r E u h hr => by subst h; exact hr, hκ⟩
  · cases hm
    refine contract_ok2 (runF_ok tab_ok noΓ_ok noΔ_ok 2) ?_
    rintro args κ ⟨n, g, rfl, hn, hκ⟩
    exact ⟨rfl, _, _, vc15 n hn g, fun r E u h hr => by subst h; exact hr, hκ⟩
  · cases hm
    refine contract_ok2 h1 ?_
    rintro args κ ⟨o, n, f, b, t, rfl, hn, hκ⟩
    exact ⟨rfl, _, _, vc18 o n hn f b t, fun r E u h hr => by obtain ⟨get, rfl, hg⟩ := h; exact rel_rs_congr hg hr, hκ⟩
  · cases hm
    refine contract_ok2 h1 ?_
    rintro args κ ⟨o, n, f, rfl, hn, hκ⟩
    exact ⟨rfl, _, _, vc19 o n hn f, fun r E u h hr => by obtain ⟨get, rfl, hg⟩ := h; exact rel_rs_congr hg hr, hκ⟩
  · exact Δ1_ok.ok _ _ hm
theorem app_sv (f : Nat → VF) (b : Bool) (t : ByteArray) (k j : Nat) (hj : j < k + 1) : app k (fun j => svC (f j) b t) (chunk (svC (f k) b t) 21) j = svC (f j) b t := by
  by_cases h : j < k
  · have hb : Nat.blt j k = true := Nat.blt_eq.mpr h
    simp [app, hb]
  · obtain rfl : j = k := by omega
    have hb : Nat.blt j j = false := by cases h : Nat.blt j j with | false => rfl | true => exact absurd (Nat.blt_eq.mp h) (by omega)
    simp [app, hb, chunk, svC]
def jn4 : List (Nat × List Nat) := [(4, [20005, 607])]
theorem vc4 (o : Int) (n : Nat) (hn : n ≤ 9223372036854775807) (f : Nat → VF) : runF std (tabJ jn4) noΓ (Δ2 chkL chkI ol oa ow) 3 4 [I o, .rs 19 n fun j => rvC (f j)] [] (fin std fun r => r = .v (.bool true)) := by
  obtain ⟨O, hO⟩ : ∃ O, O = std := ⟨_, rfl⟩
  obtain ⟨cl, hcl⟩ : ∃ c, c = chkL := ⟨_, rfl⟩
  obtain ⟨ci, hci⟩ : ∃ c, c = chkI := ⟨_, rfl⟩
  obtain ⟨l, hl⟩ : ∃ c, c = ol := ⟨_, rfl⟩
  obtain ⟨ga, hga⟩ : ∃ c, c = oa := ⟨_, rfl⟩
  obtain ⟨gw, hgw⟩ : ∃ c, c = ow := ⟨_, rfl⟩
  obtain ⟨c, hc⟩ : ∃ p : Nat → Int, p = castI := ⟨_, rfl⟩
  rw [← hO, ← hcl, ← hci, ← hl, ← hga, ← hgw]
  cbv
  refine ⟨fun h => trivial, fun h => ?_⟩
  have hn' : n ≤ 200 := by subst hO; simp [std] at h; omega
  refine ⟨{k : Nat // k ≤ n}, fun k => [(6, I (c k.1)), (0, I o), (1, .rs 19 n fun j => rvC (f j)), (5, .o 0 k.1)], fun k => [.row 34 21 k.1 (fun j => svC (f j) false ⟨#[]⟩) k.1], fun k => n - k.1, ⟨0, by omega⟩, fun k => by cbv, ?_, ?_, fun k => ?_⟩
  · exact ⟨congrArg (fun x => I x) (by rw [hc]; rfl), rfl, rfl, rfl, trivial⟩
  · exact ⟨⟨rfl, rfl, rfl, rfl, fun j hj => absurd hj (Nat.not_lt_zero j)⟩, trivial⟩
  obtain ⟨k, hk⟩ := k
  cbv
  refine ⟨fun hlt => ?_, fun hlt => ?_⟩
  · have hck : c k = (k : Int) := by rw [hc]; rfl
    have hk' : k < n := by
      have : O.2 BinOp.lss (c k) (O.15 n) = true := hlt
      rw [hO, hck] at this; simp [std] at this; omega
    refine ⟨Unit, fun _ => [(6, I (c k)), (0, I o), (1, .rs 19 n fun j => rvC (f j)), (5, .o 0 (k + 1))], fun _ => [.row 34 21 (k + 1) (fun j => svC (f j) false ⟨#[]⟩) (k + 1)], fun _ => by cbv, ?_, fun _ => ?_⟩
    · cbv
      subst hO
      have hck : c k = (k : Int) := by rw [hc]; rfl
      have e3 : std.nat (c k) = k := by rw [hck]; simp [std]
      refine ⟨by show std.inb (c k) n; rw [hck]; simp only [std]; omega, rfl, ⟨by simp only [std, maxLen]; omega, by simp only [std]; omega⟩, (), ⟨rfl, rfl, rfl, rfl, trivial⟩, ⟨rfl, rfl, rfl, rfl, fun j hj => ?_⟩, trivial⟩
      show app k _ (chunk (svC (f (std.nat (c k))) false ⟨#[]⟩) 21) j = _
      rw [e3]; exact app_sv f false ⟨#[]⟩ k j hj
    · cbv
      have hck : c k = (k : Int) := by rw [hc]; rfl
      have e3 : O.16 (c k) = k := by rw [hO, hck]; simp [std]
      have e0 : O.16 0 = 0 := by rw [hO]; rfl
      refine ⟨⟨by rw [hO]; rfl, by rw [hO]; simp only [std]; omega⟩, ⟨by rw [hO]; rfl, by show O.le (O.nadd (O.nat 0) 1) (k + 1); rw [e0, hO]; simp only [std]; omega⟩, ⟨by rw [hO]; rfl, by rw [hO, hck]; simp only [std]; omega⟩, ⟨by rw [hO]; rfl, by show O.le (O.nadd (O.nat (c k)) 1) (k + 1); rw [e3, hO]; simp only [std]; omega⟩, by rw [hO]; simp only [std]; omega, by rw [hO, hck]; simp only [std]; omega, f 0, f k, false, false, ⟨#[]⟩, ⟨#[]⟩, ?_, ?_⟩
      · show [SV.a (svC (f (O.16 0)) false ⟨#[]⟩), SV.a (svC (f (O.16 (c k))) false ⟨#[]⟩)] = _
        rw [e0, e3]
      cbv
      refine ⟨f 0, f k, ?_, ?_⟩
      · show [SV.a (rvC (f (O.16 0))), SV.a (rvC (f (O.16 (c k))))] = _
        rw [e0, e3]
      cbv
      refine ⟨cl (f 0) (f k), ci (f 0) (f k), rfl, by rw [hcl]; exact chkL_le _ _, ?_⟩
      cbv
      have hck : c k = (k : Int) := by rw [hc]; rfl
      have hck1 : c (k + 1) = (k : Int) + 1 := by rw [hc]; rfl
      subst hO
      refine ⟨fun h => by simp [std] at h, fun _ => ⟨⟨k + 1, by omega⟩, ⟨congrArg (fun x => I x) ?_, rfl, rfl, rfl, trivial⟩, ⟨⟨rfl, rfl, rfl, rfl, fun j _ => rfl⟩, trivial⟩, by simp only; omega⟩⟩
      show std.1 BinOp.add IntKind.i64 (c k) 1 = c (k + 1)
      rw [hck, hck1]; simp only [std]; rw [wrap_of (by omega) (by omega)]
  · have hk' : k = n := by
      have hck : c k = (k : Int) := by rw [hc]; rfl
      have : O.2 BinOp.lss (c k) (O.15 n) = false := hlt
      rw [hO, hck] at this; simp [std] at this; omega
    subst hk'
    refine ⟨by rw [hO]; rfl, o, k, f, false, ⟨#[]⟩, rfl, hn', ?_⟩
    cbv
    refine ⟨o, k, f, rfl, hn', ?_⟩
    have hle : l f k ≤ 2000 := by rw [hl]; exact ol_le f k hn'
    cbv
    refine ⟨fun h => by subst hO; simp [std] at h, fun _ => ?_⟩
    refine ⟨{i : Nat // i ≤ l f k}, fun i => [(9, I (c i.1)), (7, .rs 3 (l f k) fun j => [I (ga f k j), I o, I (gw f k j)]), (8, .rs 3 (l f k) fun j => [I (ga f k j), I o, I (gw f k j)])], fun _ => [], fun i => l f k - i.1, ⟨0, by omega⟩, fun i => by cbv, ?_, trivial, fun i => ?_⟩
    · exact ⟨congrArg (fun x => I x) (by rw [hc]; rfl), rfl, rfl, trivial⟩
    obtain ⟨i, hi⟩ := i
    cbv
    subst hO
    have hck : c i = (i : Int) := by rw [hc]; rfl
    have hck1 : c (i + 1) = (i : Int) + 1 := by rw [hc]; rfl
    refine ⟨fun hlt => ?_, fun _ => trivial⟩
    have hk2 : i < l f k := by simp [std, hck] at hlt; omega
    have hb : std.20 (c i) (l f k) := by rw [hck]; simp only [std]; omega
    refine ⟨⟨hb, hb, hb, hb, trivial⟩, fun h => by simp [std] at h, fun _ => ⟨⟨i + 1, by omega⟩, ⟨congrArg (fun x => I x) ?_, rfl, rfl, trivial⟩, trivial, by simp only; omega⟩⟩
    show std.1 BinOp.add IntKind.i64 (c i) 1 = c (i + 1)
    rw [hck, hck1]; simp only [std]; rw [wrap_of (by omega) (by omega)]
/-- THE LAW's FUNCTION answers true. -/
theorem law (o : Int) (n cap : Nat) (f : Nat → VF) (a : Option Addr) (W : World) (hc : n ≤ cap) (hm : cap ≤ maxLen) (ha : a = none → n = 0)
    (hr : ∀ j, j < n → ∃ blk off, a = some ⟨blk, off, none⟩ ∧ blk < W.heap.size ∧ ∀ i, i < 19 → W.cell? ⟨blk, off + j * 19 + i, none⟩ = some (.int .i64 (f j i))) :
    Calls Try.prog 4 #[.int .i64 o, .slice a n cap] W fun e w' => e = .returned (.bool true) ∧ Below W.heap.size W w' := by
  have hn : n ≤ 9223372036854775807 := by unfold maxLen at hm; omega
  refine law_calls (runF_ok (tabJ_ok jn4) noΓ_ok Δ2_ok 3) (args := [I o, .rs 19 n fun j => rvC (f j)]) (vals := [.int .i64 o, .slice a n cap]) rfl (vc4 o n hn f) ?_
  simp only [relL]
  refine ⟨_, _, rfl, by simp only [rel], _, _, rfl, ?_, rfl⟩
  simp only [rel]
  refine ⟨a, cap, rfl, hc, hm, ha, fun j hj => ?_⟩
  obtain ⟨blk, off, h1, h2, h3⟩ := hr j hj
  refine ⟨blk, off, (List.range 19).map fun i => .int .i64 (f j i), h1, ⟨h2, fun h => h⟩, ?_, by simp, ?_, ?_⟩
  · show relL (rvC (f j)) _ [.int .i64 (f j 0), .int .i64 (f j 1), .int .i64 (f j 2), .int .i64 (f j 3), .int .i64 (f j 4), .int .i64 (f j 5), .int .i64 (f j 6), .int .i64 (f j 7), .int .i64 (f j 8), .int .i64 (f j 9), .int .i64 (f j 10), .int .i64 (f j 11), .int .i64 (f j 12), .int .i64 (f j 13), .int .i64 (f j 14), .int .i64 (f j 15), .int .i64 (f j 16), .int .i64 (f j 17), .int .i64 (f j 18)]
    unfold rvC
    repeat (first | exact relL_nil _ | refine relL_cons (by simp only [rel]) ?_)
  · intro k u hu
    rw [List.getElem?_map] at hu
    by_cases hk : k < 19
    · rw [List.getElem?_range hk] at hu
      simp only [Option.map_some, Option.some.injEq] at hu
      subst hu
      exact h3 k hk
    · rw [List.getElem?_eq_none (by simpa using hk)] at hu; cases hu
  · intro u hu
    simp only [List.mem_map] at hu
    obtain ⟨i, _, rfl⟩ := hu
    rfl
end Go.Sx.At
