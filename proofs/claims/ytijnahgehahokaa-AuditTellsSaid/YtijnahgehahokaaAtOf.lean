/- What audit's and the document's findings of views come to, by the runner. -/
import Derived.Test.YtijnahgehahokaaAtWalk2
set_option linter.unusedVariables false
set_option linter.unusedSimpArgs false
namespace Go.Sx.At
open Go.Sx Go.Proofs Go.Sx.Bn
set_option maxRecDepth 100000
abbrev VF := Nat → Int
def chkL (v w : VF) : Nat := (chk v w).length
def chkI (v w : VF) (j : Nat) : Int := (chk v w).getD j 0
theorem chkL_le (v w : VF) : chkL v w ≤ 9 := by
  unfold chkL chk
  split
  · simp
  · exact upto_len v w 9
def castI (k : Nat) : Int := (k : Int)
def Δ1 (cl : VF → VF → Nat) (ci : VF → VF → Nat → Int) : Contracts := fun f => match f with
  | 16 => some (Spec.con fun args κ => ∃ v w b b' t t', args = [.a (svC v b t), .a (svC w b' t')] ∧ κ (.rs 1 (cl v w) fun j => [I (ci v w j)]))
  | 17 => some (Spec.con fun args κ => ∃ v w, args = [.a (rvC v), .a (rvC w)] ∧ κ (.rs 1 (cl v w) fun j => [I (ci v w j)]))
  | _ => none
theorem Δ1_ok : ContractsOk Try.prog (Δ1 chkL chkI) := by
  constructor
  intro f m hm
  unfold Δ1 at hm
  split at hm
  · cases hm
    refine contract_ok2 (runF_ok tab_ok Γa_ok noΔ_ok 5) ?_
    rintro args κ ⟨v, w, b, b', t, t', rfl, hκ⟩
    exact ⟨rfl, _, _, vc16 v w b b' t t', fun r E u h hr => h.rel hr, hκ⟩
  · cases hm
    refine contract_ok2 (runF_ok (tabJ_ok jn17) noΓ_ok noΔ_ok 2) ?_
    rintro args κ ⟨v, w, rfl, hκ⟩
    exact ⟨rfl, _, _, vc17 v w, fun r E u h hr => h.rel hr, hκ⟩
  · cases hm
mutual
def pre (f : Nat → VF) : Nat → List (Int × Int)
  | 0 => []
  | i + 1 => pre f i ++ (chk (f i) (f (i + 1))).map fun x => ((i : Int), x)
end
def part (f : Nat → VF) (i k : Nat) : List (Int × Int) := pre f i ++ ((chk (f i) (f (i + 1))).take k).map fun x => ((i : Int), x)
theorem part_zero (f : Nat → VF) (i : Nat) : part f i 0 = pre f i := by simp [part]
theorem part_full (f : Nat → VF) (i : Nat) : part f i (chkL (f i) (f (i + 1))) = part f (i + 1) 0 := by simp [part, chkL, pre]
theorem pre_len (f : Nat → VF) : ∀ i, (pre f i).length ≤ 9 * i
  | 0 => by simp [pre]
  | i + 1 => by have := pre_len f i; have := chkL_le (f i) (f (i + 1)); unfold chkL at this; simp [pre]; omega
theorem part_len (f : Nat → VF) (i k : Nat) : (part f i k).length ≤ 9 * i + 9 := by
  have := pre_len f i; have := chkL_le (f i) (f (i + 1)); unfold chkL at this
  simp [part]; omega
theorem part_succ (f : Nat → VF) (i k : Nat) (h : k < chkL (f i) (f (i + 1))) : part f i (k + 1) = part f i k ++ [((i : Int), chkI (f i) (f (i + 1)) k)] := by
  unfold chkL at h
  unfold part chkI
  rw [List.take_succ_eq_append_getElem h, List.map_append, ← List.append_assoc]
  have : (chk (f i) (f (i + 1))).getD k 0 = (chk (f i) (f (i + 1)))[k] := by
    generalize chk (f i) (f (i + 1)) = L at h
    simp [List.getElem?_eq_getElem h]
  rw [this]; rfl
def pl (f : Nat → VF) (i k : Nat) : Nat := (part f i k).length
def pa (f : Nat → VF) (i k j : Nat) : Int := ((part f i k).getD j (0, 0)).1
def pw (f : Nat → VF) (i k j : Nat) : Int := ((part f i k).getD j (0, 0)).2
theorem pl_succ (f : Nat → VF) (o : Int) (i k : Nat) (h : k < chkL (f i) (f (i + 1))) : pl f i k + 1 = pl f i (k + 1) ∧
    ∀ j, j < pl f i k + 1 → app (pl f i k) (fun j => [I (pa f i k j), I o, I (pw f i k j)]) (chunk [I (i : Int), I o, I (chkI (f i) (f (i + 1)) k)] 3) j = [I (pa f i (k + 1) j), I o, I (pw f i (k + 1) j)] := by
  refine ⟨by simp [pl, part_succ f i k h], fun j hj => ?_⟩
  by_cases hl : j < pl f i k
  · have hb : Nat.blt j (pl f i k) = true := Nat.blt_eq.mpr hl
    simp only [app, hb, cond_true]
    unfold pl at hl
    simp [pa, pw, part_succ f i k h, List.getElem?_append_left hl]
  · obtain rfl : j = pl f i k := by omega
    have hb : Nat.blt (pl f i k) (pl f i k) = false := by cases h : Nat.blt (pl f i k) (pl f i k) with | false => rfl | true => exact absurd (Nat.blt_eq.mp h) (by omega)
    simp only [app, hb, cond_false, Nat.sub_self]
    simp [pa, pw, part_succ f i k h, pl, chunk]
def IsF (f : Nat → VF) (o : Int) (n : Nat) (r : SV) : Prop := ∃ get, r = .rs 3 (pl f (n - 1) 0) get ∧ ∀ j, j < pl f (n - 1) 0 → get j = [I (pa f (n - 1) 0 j), I o, I (pw f (n - 1) 0 j)]
theorem vc18 (o : Int) (n : Nat) (hn : n ≤ 200) (f : Nat → VF) (b : Bool) (t : ByteArray) : runF std tab noΓ (Δ1 chkL chkI) 2 18 [I o, .rs 21 n fun j => svC (f j) b t] [] (fin std (IsF f o n)) := by
  obtain ⟨O, hO⟩ : ∃ O, O = std := ⟨_, rfl⟩
  obtain ⟨rr, hr⟩ : ∃ rr, rr = IsF f o n := ⟨_, rfl⟩
  obtain ⟨cl, hcl⟩ : ∃ c, c = chkL := ⟨_, rfl⟩
  obtain ⟨ci, hci⟩ : ∃ c, c = chkI := ⟨_, rfl⟩
  obtain ⟨l, hl⟩ : ∃ l, l = pl f := ⟨_, rfl⟩
  obtain ⟨ga, hga⟩ : ∃ g, g = pa f := ⟨_, rfl⟩
  obtain ⟨gw, hgw⟩ : ∃ g, g = pw f := ⟨_, rfl⟩
  obtain ⟨p, hp⟩ : ∃ p : Nat → Int, p = succI := ⟨_, rfl⟩
  obtain ⟨c, hc⟩ : ∃ p : Nat → Int, p = castI := ⟨_, rfl⟩
  rw [← hO, ← hr, ← hcl, ← hci]
  have step : ∀ i k, k < cl (f i) (f (i + 1)) → l i k + 1 = l i (k + 1) ∧ ∀ j, j < l i k + 1 → app (l i k) (fun j => [I (ga i k j), I o, I (gw i k j)]) (chunk [I (c i), I o, I (ci (f i) (f (i + 1)) k)] 3) j = [I (ga i (k + 1) j), I o, I (gw i (k + 1) j)] := by
    intro i k h; subst hcl hl hga hgw hci hc; exact pl_succ f o i k h
  have full : ∀ i, l i (cl (f i) (f (i + 1))) = l (i + 1) 0 ∧ ∀ j, ga i (cl (f i) (f (i + 1))) j = ga (i + 1) 0 j ∧ gw i (cl (f i) (f (i + 1))) j = gw (i + 1) 0 j := by
    intro i; subst hcl hl hga hgw; unfold pl pa pw; rw [part_full]; exact ⟨rfl, fun _ => ⟨rfl, rfl⟩⟩
  have lle : ∀ i k, l i k ≤ 9 * i + 9 := fun i k => by rw [hl]; exact part_len f i k
  cbv
  refine ⟨{i : Nat // i ≤ n - 1}, fun i => [(6, I (p i.1)), (0, I o), (1, .rs 21 n fun j => svC (f j) b t), (5, .o 1 (l i.1 0))], fun i => [.gone, .row 46 3 (l i.1 0) (fun j => [I (ga i.1 0 j), I o, I (gw i.1 0 j)]) (l i.1 0)],
    fun i => n - i.1, ⟨0, by omega⟩, fun i => by cbv, ?_, ?_, fun i => ?_⟩
  · exact ⟨congrArg (fun x => I x) (by rw [hp]; rfl), rfl, rfl, congrArg (SV.o 1) (by rw [hl]; rfl), trivial⟩
  · exact ⟨trivial, ⟨rfl, rfl, by rw [hl]; rfl, by rw [hl]; rfl, fun j hj => absurd hj (Nat.not_lt_zero j)⟩, trivial⟩
  obtain ⟨i, hi⟩ := i
  cbv
  have hpi : p i = (i : Int) + 1 := by rw [hp]; rfl
  have hci0 : c i = (i : Int) := by rw [hc]; rfl
  refine ⟨fun hlt => ?_, fun hlt => ?_⟩
  · have hlt' : i + 1 < n := by rw [hO] at hlt; simp [std, hpi] at hlt; omega
    have e1 : O.1 BinOp.sub IntKind.i64 (p i) 1 = c i := by rw [hO, hpi, hci0]; simp only [std]; rw [wrap_of (by omega) (by omega)]; omega
    have e1' : O.16 (O.1 BinOp.sub IntKind.i64 (p i) 1) = i := by rw [e1, hO, hci0]; simp [std]
    have e2 : O.16 (p i) = i + 1 := by rw [hO, hpi]; simp [std]
    refine ⟨by show O.20 (O.1 BinOp.sub IntKind.i64 (p i) 1) n; rw [e1, hO, hci0]; simp only [std]; omega, by show O.20 (p i) n; rw [hO, hpi]; simp only [std]; omega, f i, f (i + 1), b, b, t, t, ?_, ?_⟩
    · show [SV.a (svC (f (O.16 (O.1 BinOp.sub IntKind.i64 (p i) 1))) b t), SV.a (svC (f (O.16 (p i))) b t)] = _
      rw [e1', e2]
    cbv
    refine ⟨{k : Nat // k ≤ cl (f i) (f (i + 1))}, fun k => [(26, I (c k.1)), (25, I (O.of (cl (f i) (f (i + 1))))), (24, .rs 1 (cl (f i) (f (i + 1))) fun j => [I (ci (f i) (f (i + 1)) j)]), (6, I (p i)), (0, I o), (1, .rs 21 n fun j => svC (f j) b t), (5, .o 1 (l i k.1))],
      fun k => [.gone, .row 46 3 (l i k.1) (fun j => [I (ga i k.1 j), I o, I (gw i k.1 j)]) (l i k.1)], fun k => cl (f i) (f (i + 1)) - k.1, ⟨0, by omega⟩, fun k => by cbv, ?_, ?_, fun k => ?_⟩
    · exact ⟨congrArg (fun x => I x) (by rw [hc]; rfl), rfl, rfl, rfl, rfl, rfl, rfl, trivial⟩
    · exact ⟨trivial, ⟨rfl, rfl, rfl, rfl, fun j hj => rfl⟩, trivial⟩
    obtain ⟨k, hk⟩ := k
    cbv
    subst hO
    have hpi : p i = (i : Int) + 1 := by rw [hp]; rfl
    have hck : c k = (k : Int) := by rw [hc]; rfl
    have hck1 : c (k + 1) = (k : Int) + 1 := by rw [hc]; rfl
    have hpi1 : p (i + 1) = (i : Int) + 2 := by rw [hp]; simp [succI]; omega
    have e3 : std.nat (c k) = k := by rw [hck]; simp [std]
    have hll := lle i k
    have h9 : cl (f i) (f (i + 1)) ≤ 9 := by rw [hcl]; exact chkL_le _ _
    refine ⟨fun hkl => ?_, fun hkl => ?_⟩
    · have hk' : k < cl (f i) (f (i + 1)) := by simp [std, hck] at hkl; omega
      obtain ⟨s1, s2⟩ := step i k hk'
      have e4 : std.ar BinOp.add IntKind.i64 (c k) 1 = c (k + 1) := by rw [hck, hck1]; simp only [std]; rw [wrap_of (by omega) (by omega)]
      refine ⟨by show std.inb (c k) _; rw [hck]; simp only [std]; omega, rfl, ⟨by simp only [std, maxLen]; omega, by simp only [std]; omega⟩, ⟨k + 1, by omega⟩, ⟨congrArg (fun x => I x) e4, rfl, rfl, rfl, rfl, rfl, congrArg (SV.o 1) s1, trivial⟩, ⟨trivial, ⟨rfl, rfl, s1, s1, ?_⟩, trivial⟩, by simp only; omega⟩
      intro j hj
      show app (l i k) _ (chunk [I (std.ar BinOp.sub IntKind.i64 (p i) 1), I o, I (ci (f i) (f (i + 1)) (std.nat (c k)))] 3) j = _
      rw [e1, e3]; exact s2 j hj
    · have hk' : k = cl (f i) (f (i + 1)) := by simp [std, hck] at hkl; omega
      obtain ⟨f1, f2⟩ := full i
      rw [← hk'] at f1 f2
      have e4 : std.ar BinOp.add IntKind.i64 (p i) 1 = p (i + 1) := by rw [hpi, hpi1]; simp only [std]; rw [wrap_of (by omega) (by omega)]; omega
      refine ⟨⟨i + 1, by omega⟩, ⟨congrArg (fun x => I x) e4, rfl, rfl, congrArg (SV.o 1) f1, trivial⟩, ⟨trivial, ⟨rfl, rfl, f1, f1, fun j _ => ?_⟩, trivial⟩, by simp only; omega⟩
      show [I (ga i k j), I o, I (gw i k j)] = _
      rw [(f2 j).1, (f2 j).2]
  · have hi' : i = n - 1 := by rw [hO] at hlt; simp [std, hpi] at hlt; omega
    subst hO hi' hl hga hgw
    refine ⟨rfl, ?_⟩
    rw [hr]; exact ⟨_, rfl, fun j _ => rfl⟩
theorem vc19 (o : Int) (n : Nat) (hn : n ≤ 200) (f : Nat → VF) : runF std tab noΓ (Δ1 chkL chkI) 2 19 [I o, .rs 19 n fun j => rvC (f j)] [] (fin std (IsF f o n)) := by
  obtain ⟨O, hO⟩ : ∃ O, O = std := ⟨_, rfl⟩
  obtain ⟨rr, hr⟩ : ∃ rr, rr = IsF f o n := ⟨_, rfl⟩
  obtain ⟨cl, hcl⟩ : ∃ c, c = chkL := ⟨_, rfl⟩
  obtain ⟨ci, hci⟩ : ∃ c, c = chkI := ⟨_, rfl⟩
  obtain ⟨l, hl⟩ : ∃ l, l = pl f := ⟨_, rfl⟩
  obtain ⟨ga, hga⟩ : ∃ g, g = pa f := ⟨_, rfl⟩
  obtain ⟨gw, hgw⟩ : ∃ g, g = pw f := ⟨_, rfl⟩
  obtain ⟨p, hp⟩ : ∃ p : Nat → Int, p = succI := ⟨_, rfl⟩
  obtain ⟨c, hc⟩ : ∃ p : Nat → Int, p = castI := ⟨_, rfl⟩
  rw [← hO, ← hr, ← hcl, ← hci]
  have step : ∀ i k, k < cl (f i) (f (i + 1)) → l i k + 1 = l i (k + 1) ∧ ∀ j, j < l i k + 1 → app (l i k) (fun j => [I (ga i k j), I o, I (gw i k j)]) (chunk [I (c i), I o, I (ci (f i) (f (i + 1)) k)] 3) j = [I (ga i (k + 1) j), I o, I (gw i (k + 1) j)] := by
    intro i k h; subst hcl hl hga hgw hci hc; exact pl_succ f o i k h
  have full : ∀ i, l i (cl (f i) (f (i + 1))) = l (i + 1) 0 ∧ ∀ j, ga i (cl (f i) (f (i + 1))) j = ga (i + 1) 0 j ∧ gw i (cl (f i) (f (i + 1))) j = gw (i + 1) 0 j := by
    intro i; subst hcl hl hga hgw; unfold pl pa pw; rw [part_full]; exact ⟨rfl, fun _ => ⟨rfl, rfl⟩⟩
  have lle : ∀ i k, l i k ≤ 9 * i + 9 := fun i k => by rw [hl]; exact part_len f i k
  cbv
  refine ⟨{i : Nat // i ≤ n - 1}, fun i => [(6, I (c i.1)), (0, I o), (1, .rs 19 n fun j => rvC (f j)), (5, .o 1 (l i.1 0))], fun i => [.gone, .row 47 3 (l i.1 0) (fun j => [I (ga i.1 0 j), I o, I (gw i.1 0 j)]) (l i.1 0)],
    fun i => n - i.1, ⟨0, by omega⟩, fun i => by cbv, ?_, ?_, fun i => ?_⟩
  · exact ⟨congrArg (fun x => I x) (by rw [hc]; rfl), rfl, rfl, congrArg (SV.o 1) (by rw [hl]; rfl), trivial⟩
  · exact ⟨trivial, ⟨rfl, rfl, by rw [hl]; rfl, by rw [hl]; rfl, fun j hj => absurd hj (Nat.not_lt_zero j)⟩, trivial⟩
  obtain ⟨i, hi⟩ := i
  cbv
  have hpi : p i = (i : Int) + 1 := by rw [hp]; rfl
  have hci0 : c i = (i : Int) := by rw [hc]; rfl
  refine ⟨fun hlt => ?_, fun hlt => ?_⟩
  · have e1 : O.1 BinOp.add IntKind.i64 (c i) 1 = p i := by rw [hO, hpi, hci0]; simp only [std]; rw [wrap_of (by omega) (by omega)]
    have hlt' : i + 1 < n := by
      have : O.2 BinOp.lss (O.1 BinOp.add IntKind.i64 (c i) 1) (O.15 n) = true := hlt
      rw [e1, hO, hpi] at this; simp [std] at this; omega
    have e1' : O.16 (O.1 BinOp.add IntKind.i64 (c i) 1) = i + 1 := by rw [e1, hO, hpi]; simp [std]
    have e2 : O.16 (c i) = i := by rw [hO, hci0]; simp [std]
    refine ⟨by show O.20 (c i) n; rw [hO, hci0]; simp only [std]; omega, by show O.20 (O.1 BinOp.add IntKind.i64 (c i) 1) n; rw [e1, hO, hpi]; simp only [std]; omega, f i, f (i + 1), ?_, ?_⟩
    · show [SV.a (rvC (f (O.16 (c i)))), SV.a (rvC (f (O.16 (O.1 BinOp.add IntKind.i64 (c i) 1))))] = _
      rw [e1', e2]
    cbv
    refine ⟨{k : Nat // k ≤ cl (f i) (f (i + 1))}, fun k => [(8, I (c k.1)), (7, .rs 1 (cl (f i) (f (i + 1))) fun j => [I (ci (f i) (f (i + 1)) j)]), (6, I (c i)), (0, I o), (1, .rs 19 n fun j => rvC (f j)), (5, .o 1 (l i k.1))],
      fun k => [.gone, .row 47 3 (l i k.1) (fun j => [I (ga i k.1 j), I o, I (gw i k.1 j)]) (l i k.1)], fun k => cl (f i) (f (i + 1)) - k.1, ⟨0, by omega⟩, fun k => by cbv, ?_, ?_, fun k => ?_⟩
    · exact ⟨congrArg (fun x => I x) (by rw [hc]; rfl), rfl, rfl, rfl, rfl, rfl, trivial⟩
    · exact ⟨trivial, ⟨rfl, rfl, rfl, rfl, fun j hj => rfl⟩, trivial⟩
    obtain ⟨k, hk⟩ := k
    cbv
    subst hO
    have hpi : p i = (i : Int) + 1 := by rw [hp]; rfl
    have hck : c k = (k : Int) := by rw [hc]; rfl
    have hck1 : c (k + 1) = (k : Int) + 1 := by rw [hc]; rfl
    have hci0 : c i = (i : Int) := by rw [hc]; rfl
    have hci1 : c (i + 1) = (i : Int) + 1 := by rw [hc]; rfl
    have e3 : std.nat (c k) = k := by rw [hck]; simp [std]
    have hll := lle i k
    have h9 : cl (f i) (f (i + 1)) ≤ 9 := by rw [hcl]; exact chkL_le _ _
    refine ⟨fun hkl => ?_, fun hkl => ?_⟩
    · have hk' : k < cl (f i) (f (i + 1)) := by simp [std, hck] at hkl; omega
      obtain ⟨s1, s2⟩ := step i k hk'
      have e4 : std.ar BinOp.add IntKind.i64 (c k) 1 = c (k + 1) := by rw [hck, hck1]; simp only [std]; rw [wrap_of (by omega) (by omega)]
      refine ⟨by show std.inb (c k) _; rw [hck]; simp only [std]; omega, rfl, ⟨by simp only [std, maxLen]; omega, by simp only [std]; omega⟩, ⟨k + 1, by omega⟩, ⟨congrArg (fun x => I x) e4, rfl, rfl, rfl, rfl, congrArg (SV.o 1) s1, trivial⟩, ⟨trivial, ⟨rfl, rfl, s1, s1, ?_⟩, trivial⟩, by simp only; omega⟩
      intro j hj
      show app (l i k) _ (chunk [I (c i), I o, I (ci (f i) (f (i + 1)) (std.nat (c k)))] 3) j = _
      rw [e3]; exact s2 j hj
    · have hk' : k = cl (f i) (f (i + 1)) := by simp [std, hck] at hkl; omega
      obtain ⟨f1, f2⟩ := full i
      rw [← hk'] at f1 f2
      have e4 : std.ar BinOp.add IntKind.i64 (c i) 1 = c (i + 1) := by rw [hci0, hci1]; simp only [std]; rw [wrap_of (by omega) (by omega)]
      refine ⟨⟨i + 1, by omega⟩, ⟨congrArg (fun x => I x) e4, rfl, rfl, congrArg (SV.o 1) f1, trivial⟩, ⟨trivial, ⟨rfl, rfl, f1, f1, fun j _ => ?_⟩, trivial⟩, by simp only; omega⟩
      show [I (ga i k j), I o, I (gw i k j)] = _
      rw [(f2 j).1, (f2 j).2]
  · have e1 : O.1 BinOp.add IntKind.i64 (c i) 1 = p i := by rw [hO, hpi, hci0]; simp only [std]; rw [wrap_of (by omega) (by omega)]
    have hi' : i = n - 1 := by
      have : O.2 BinOp.lss (O.1 BinOp.add IntKind.i64 (c i) 1) (O.15 n) = false := hlt
      rw [e1, hO, hpi] at this; simp [std] at this; omega
    subst hO hi' hl hga hgw
    refine ⟨rfl, ?_⟩
    rw [hr]; exact ⟨_, rfl, fun j _ => rfl⟩
end Go.Sx.At
