/- What audit's check comes to, by the runner. -/
import Derived.Test.YtijnahgehahokaaAtWalk
set_option linter.unusedVariables false
set_option linter.unusedSimpArgs false
namespace Go.Sx.At
open Go.Sx Go.Proofs Go.Sx.Bn
set_option maxRecDepth 100000
def Γa (ne : Int → Bool) : Known := fun f a => match f, a with
  | 37, [.a [.v (.int .i64 v0), .v (.int .i64 v1), .v (.int .i64 v2), .v (.int .i64 v3), .v (.int .i64 v4), .v (.int .i64 v5), .v (.int .i64 v6), .v (.int .i64 v7), .v (.int .i64 v8), .v (.bool b), .v (.int .i64 v9), .v (.int .i64 v10), .v (.int .i64 v11), .v (.int .i64 v12), .v (.int .i64 v13), .v (.int .i64 v14), .v (.int .i64 v15), .v (.int .i64 v16), .v (.int .i64 v17), .v (.int .i64 v18), .v (.string t)]] => some (.bool (ne v0), True)
  | _, _ => none
theorem vc37 (v0 v1 v2 v3 v4 v5 v6 v7 v8 v9 v10 v11 v12 v13 v14 v15 v16 v17 v18 : Int) (b : Bool) (t : ByteArray) : runF std tab noΓ noΔ 2 37 [.a [I v0, I v1, I v2, I v3, I v4, I v5, I v6, I v7, I v8, .v (.bool b), I v9, I v10, I v11, I v12, I v13, I v14, I v15, I v16, I v17, I v18, .v (.string t)]] [] (fin std fun r => r = .v (.bool (v0 != 0))) := by
  obtain ⟨O, hO⟩ : ∃ O, O = std := ⟨_, rfl⟩
  obtain ⟨x, hx⟩ : ∃ x, x = (v0 != 0) := ⟨_, rfl⟩
  rw [← hO, ← hx]
  cbv
  subst hO
  rw [hx]; rfl
theorem Γa_ok : KnownOk Try.prog (Γa fun q => q != 0) := by
  refine known_mk (runF_ok tab_ok noΓ_ok noΔ_ok 2) fun f args x sc h => ?_
  unfold Γa at h
  split at h
  · simp only [Option.some.injEq, Prod.mk.injEq] at h
    obtain ⟨rfl, rfl⟩ := h
    exact ⟨⟨_, Try.func37, rfl, rfl⟩, fun _ => vc37 _ _ _ _ _ _ _ _ _ _ _ _ _ _ _ _ _ _ _ _ _⟩
  · cases h
def succI (k : Nat) : Int := ((k + 1 : Nat) : Int)
theorem vc16 (v w : Nat → Int) (b b' : Bool) (t t' : ByteArray) : runF std tab (Γa fun q => q != 0) noΔ 5 16 [.a (svC v b t), .a (svC w b' t')] [] (fin std (IsL (chk v w))) := by
  obtain ⟨O, hO⟩ : ∃ O, O = std := ⟨_, rfl⟩
  obtain ⟨rr, hr⟩ : ∃ rr, rr = IsL (chk v w) := ⟨_, rfl⟩
  obtain ⟨ne, hne⟩ : ∃ ne : Int → Bool, ne = fun q => q != 0 := ⟨_, rfl⟩
  obtain ⟨ln, hln⟩ : ∃ ln : Nat → Nat, ln = fun k => (upto v w k).length := ⟨_, rfl⟩
  obtain ⟨g, hg⟩ : ∃ g : Nat → Nat → Int, g = fun k j => (upto v w k).getD j 0 := ⟨_, rfl⟩
  have hlen : ∀ k, ln k ≤ k := fun k => by rw [hln]; exact upto_len v w k
  have ln0 : ln 0 = 0 := by rw [hln]; rfl
  have yes : ∀ k, hit v w (k + 1) = true → ∀ get : Nat → List SV, (∀ j, j < ln k → get j = [I (g k j)]) → ln k + 1 = ln (k + 1) ∧ ∀ j, j < ln k + 1 → app (ln k) get (chunk [I ((k + 1 : Nat) : Int)] 1) j = [I (g (k + 1) j)] := by
    intro k h get hget; subst hln hg; exact upto_yes h hget
  have no : ∀ k, hit v w (k + 1) = false → ln k = ln (k + 1) ∧ ∀ j, g k j = g (k + 1) j := by
    intro k h; subst hln hg; simp only [upto_no h]; exact ⟨trivial, fun _ => trivial⟩
  rw [← hO, ← hr, ← hne]
  cbv
  refine ⟨⟨fun _ => trivial, trivial⟩, fun h => ?_, fun h => ?_⟩
  · subst hO hne
    refine ⟨rfl, ?_⟩
    have h' : v 0 = 0 ∨ w 0 = 0 := by simpa [std] using h
    rw [hr, chk, if_pos h']; exact ⟨_, rfl, fun j hj => by simp at hj⟩
  have h0 : ¬ (v 0 = 0 ∨ w 0 = 0) := by subst hO hne; simpa [std] using h
  clear h
  obtain ⟨p, hp⟩ : ∃ p : Nat → Int, p = succI := ⟨_, rfl⟩
  refine ⟨{k : Nat // k ≤ 9}, fun k => [(7, I (p k.1)), (2, .p 0 0), (3, .p 1 0), (6, .p 4 0), (5, .o 3 (ln k.1))],
    fun k => [.cells (svC v b t) 34, .cells (svC w b' t') 34, .gone, .row 3 1 (ln k.1) (fun j => [I (g k.1 j)]) (ln k.1), .cells [I 0, I 0, I 0, I (v 10), I (w 10), I (w 3), I (v 11), I (w 11), I (w 4), I (v 12), I (w 12), I (w 5), I (v 15), I (w 15), I (w 6), I (v 16), I (w 16), I (w 7), I 0, I 0, I 0, I 0, I 0, I 0, I 0, I 0, I 0, I 0, I 0, I 0] 81],
    fun k => 9 - k.1, ⟨0, by omega⟩, fun i => by cbv, ?_, ?_, fun k => ?_⟩
  · exact ⟨congrArg (fun x => I x) (by rw [hp]; rfl), rfl, rfl, rfl, congrArg (SV.o 3) ln0.symm, trivial⟩
  · exact ⟨⟨rfl, rfl⟩, ⟨rfl, rfl⟩, trivial, ⟨rfl, rfl, ln0.symm, ln0.symm, fun j hj => by omega⟩, ⟨rfl, rfl⟩, trivial⟩
  obtain ⟨k, hk⟩ := k
  cbv
  subst hO
  have hpk : p k = ((k + 1 : Nat) : Int) := by rw [hp]; rfl
  have hpk1 : p (k + 1) = p k + 1 := by rw [hp]; rfl
  have hl := hlen k
  have step : std.1 BinOp.add IntKind.i64 (p k) 1 = p (k + 1) := by rw [hpk1]; simp only [std]; exact wrap_of (by omega) (by omega)
  refine ⟨fun hle => ⟨fun h6 => ?_, fun h6 => ⟨fun h7 => ?_, fun h7 => ⟨fun h8 => ?_, fun h8 => ⟨fun h9 => ?_, fun h9 => ?_⟩⟩⟩⟩, fun hle => ?_⟩
  · have hk' : k + 1 = 6 := by simp [std] at h6; omega
    exact ⟨fun h => (by
      have hit1 : hit v w (k + 1) = true := by
        rw [hit, if_pos hk']
        simp [std] at h ⊢
        omega
      obtain ⟨e1, e2⟩ := yes k hit1 (fun j => [I (g k j)]) (fun _ _ => rfl)
      have e3 : ∀ j, j < ln k + 1 → app (ln k) (fun j => [I (g k j)]) (chunk [I (p k)] 1) j = [I (g (k + 1) j)] := by rw [hpk]; exact e2
      exact ⟨rfl, ⟨by simp only [std, maxLen]; omega, by simp only [std]; omega⟩, ⟨k + 1, by omega⟩, ⟨congrArg (fun x => I x) step, rfl, rfl, rfl, congrArg (SV.o 3) e1, trivial⟩, ⟨⟨rfl, rfl⟩, ⟨rfl, rfl⟩, trivial, ⟨rfl, rfl, e1, e1, fun j hj => e3 j hj⟩, ⟨rfl, rfl⟩, trivial⟩, by show 9 - (k + 1) < 9 - k; omega⟩), fun h => (by
      have hit0 : hit v w (k + 1) = false := by
        refine bool_not fun hh => ?_
        rw [hit, if_pos hk'] at hh
        simp [std] at h hh
        omega
      obtain ⟨e1, e2⟩ := no k hit0
      exact ⟨⟨k + 1, by omega⟩, ⟨congrArg (fun x => I x) step, rfl, rfl, rfl, congrArg (SV.o 3) e1, trivial⟩, ⟨⟨rfl, rfl⟩, ⟨rfl, rfl⟩, trivial, ⟨rfl, rfl, e1, e1, fun j _ => congrArg (fun x => [I x]) (e2 j)⟩, ⟨rfl, rfl⟩, trivial⟩, by show 9 - (k + 1) < 9 - k; omega⟩)⟩
  · have hk' : k + 1 = 7 := by simp [std] at h7; omega
    exact ⟨fun h => (by
      have hit1 : hit v w (k + 1) = true := by
        rw [hit, if_neg (by omega), if_pos hk']
        simp [std] at h ⊢
        omega
      obtain ⟨e1, e2⟩ := yes k hit1 (fun j => [I (g k j)]) (fun _ _ => rfl)
      have e3 : ∀ j, j < ln k + 1 → app (ln k) (fun j => [I (g k j)]) (chunk [I (p k)] 1) j = [I (g (k + 1) j)] := by rw [hpk]; exact e2
      exact ⟨rfl, ⟨by simp only [std, maxLen]; omega, by simp only [std]; omega⟩, ⟨k + 1, by omega⟩, ⟨congrArg (fun x => I x) step, rfl, rfl, rfl, congrArg (SV.o 3) e1, trivial⟩, ⟨⟨rfl, rfl⟩, ⟨rfl, rfl⟩, trivial, ⟨rfl, rfl, e1, e1, fun j hj => e3 j hj⟩, ⟨rfl, rfl⟩, trivial⟩, by show 9 - (k + 1) < 9 - k; omega⟩), fun h => (by
      have hit0 : hit v w (k + 1) = false := by
        refine bool_not fun hh => ?_
        rw [hit, if_neg (by omega), if_pos hk'] at hh
        simp [std] at h hh
        omega
      obtain ⟨e1, e2⟩ := no k hit0
      exact ⟨⟨k + 1, by omega⟩, ⟨congrArg (fun x => I x) step, rfl, rfl, rfl, congrArg (SV.o 3) e1, trivial⟩, ⟨⟨rfl, rfl⟩, ⟨rfl, rfl⟩, trivial, ⟨rfl, rfl, e1, e1, fun j _ => congrArg (fun x => [I x]) (e2 j)⟩, ⟨rfl, rfl⟩, trivial⟩, by show 9 - (k + 1) < 9 - k; omega⟩)⟩
  · have hk' : k + 1 = 8 := by simp [std] at h8; omega
    exact ⟨⟨fun _ => trivial, trivial⟩, ⟨fun h => (by
      have hit1 : hit v w (k + 1) = true := by
        rw [hit, if_neg (by omega), if_neg (by omega), if_pos hk']
        simp [std] at h ⊢
        omega
      obtain ⟨e1, e2⟩ := yes k hit1 (fun j => [I (g k j)]) (fun _ _ => rfl)
      have e3 : ∀ j, j < ln k + 1 → app (ln k) (fun j => [I (g k j)]) (chunk [I (p k)] 1) j = [I (g (k + 1) j)] := by rw [hpk]; exact e2
      exact ⟨rfl, ⟨by simp only [std, maxLen]; omega, by simp only [std]; omega⟩, ⟨k + 1, by omega⟩, ⟨congrArg (fun x => I x) step, rfl, rfl, rfl, congrArg (SV.o 3) e1, trivial⟩, ⟨⟨rfl, rfl⟩, ⟨rfl, rfl⟩, trivial, ⟨rfl, rfl, e1, e1, fun j hj => e3 j hj⟩, ⟨rfl, rfl⟩, trivial⟩, by show 9 - (k + 1) < 9 - k; omega⟩), fun h => (by
      have hit0 : hit v w (k + 1) = false := by
        refine bool_not fun hh => ?_
        rw [hit, if_neg (by omega), if_neg (by omega), if_pos hk'] at hh
        simp [std] at h hh
        omega
      obtain ⟨e1, e2⟩ := no k hit0
      exact ⟨⟨k + 1, by omega⟩, ⟨congrArg (fun x => I x) step, rfl, rfl, rfl, congrArg (SV.o 3) e1, trivial⟩, ⟨⟨rfl, rfl⟩, ⟨rfl, rfl⟩, trivial, ⟨rfl, rfl, e1, e1, fun j _ => congrArg (fun x => [I x]) (e2 j)⟩, ⟨rfl, rfl⟩, trivial⟩, by show 9 - (k + 1) < 9 - k; omega⟩)⟩⟩
  · have hk' : k + 1 = 9 := by simp [std] at h9; omega
    exact ⟨⟨fun _ => trivial, trivial⟩, ⟨fun h => (by
      have hit1 : hit v w (k + 1) = true := by
        rw [hit, if_neg (by omega), if_neg (by omega), if_neg (by omega), if_pos hk']
        simp [std] at h ⊢
        simpa [Decidable.imp_iff_not_or] using h
      obtain ⟨e1, e2⟩ := yes k hit1 (fun j => [I (g k j)]) (fun _ _ => rfl)
      have e3 : ∀ j, j < ln k + 1 → app (ln k) (fun j => [I (g k j)]) (chunk [I (p k)] 1) j = [I (g (k + 1) j)] := by rw [hpk]; exact e2
      exact ⟨rfl, ⟨by simp only [std, maxLen]; omega, by simp only [std]; omega⟩, ⟨k + 1, by omega⟩, ⟨congrArg (fun x => I x) step, rfl, rfl, rfl, congrArg (SV.o 3) e1, trivial⟩, ⟨⟨rfl, rfl⟩, ⟨rfl, rfl⟩, trivial, ⟨rfl, rfl, e1, e1, fun j hj => e3 j hj⟩, ⟨rfl, rfl⟩, trivial⟩, by show 9 - (k + 1) < 9 - k; omega⟩), fun h => (by
      have hit0 : hit v w (k + 1) = false := by
        refine bool_not fun hh => ?_
        rw [hit, if_neg (by omega), if_neg (by omega), if_neg (by omega), if_pos hk'] at hh
        simp [std] at h hh
        omega
      obtain ⟨e1, e2⟩ := no k hit0
      exact ⟨⟨k + 1, by omega⟩, ⟨congrArg (fun x => I x) step, rfl, rfl, rfl, congrArg (SV.o 3) e1, trivial⟩, ⟨⟨rfl, rfl⟩, ⟨rfl, rfl⟩, trivial, ⟨rfl, rfl, e1, e1, fun j _ => congrArg (fun x => [I x]) (e2 j)⟩, ⟨rfl, rfl⟩, trivial⟩, by show 9 - (k + 1) < 9 - k; omega⟩)⟩⟩
  · have hk' : k + 1 < 6 := by simp [std] at h6 h7 h8 h9 hle; omega
    have hs : ∀ L : List Int, std.19 L (p k) = L.getD (k + 1) 0 := fun L => by simp only [std, hpk, Int.toNat_natCast]
    have hi : std.20 (p k) 10 := by simp only [std]; omega
    refine ⟨⟨hi, hi, hi, hi, hi, hi, trivial⟩, ⟨fun h => (by
      have hit1 : hit v w (k + 1) = true := by
        have h2 : std.cmp .gtr (std.sel (isL w) (p k)) (std.mx (std.sel (mayL w) (p k)) (std.sel (isL v) (p k))) = true := h
        rw [show std.sel = std.19 from rfl, hs, hs, hs] at h2
        rw [hit, if_neg (by omega), if_neg (by omega), if_neg (by omega), if_neg (by omega)]
        exact h2
      obtain ⟨e1, e2⟩ := yes k hit1 (fun j => [I (g k j)]) (fun _ _ => rfl)
      have e3 : ∀ j, j < ln k + 1 → app (ln k) (fun j => [I (g k j)]) (chunk [I (p k)] 1) j = [I (g (k + 1) j)] := by rw [hpk]; exact e2
      exact ⟨rfl, ⟨by simp only [std, maxLen]; omega, by simp only [std]; omega⟩, ⟨k + 1, by omega⟩, ⟨congrArg (fun x => I x) step, rfl, rfl, rfl, congrArg (SV.o 3) e1, trivial⟩, ⟨⟨rfl, rfl⟩, ⟨rfl, rfl⟩, trivial, ⟨rfl, rfl, e1, e1, fun j hj => e3 j hj⟩, ⟨rfl, rfl⟩, trivial⟩, by show 9 - (k + 1) < 9 - k; omega⟩), fun h => (by
      have hit0 : hit v w (k + 1) = false := by
        refine bool_not fun hh => ?_
        have h2 : std.cmp .gtr (std.sel (isL w) (p k)) (std.mx (std.sel (mayL w) (p k)) (std.sel (isL v) (p k))) = false := h
        rw [show std.sel = std.19 from rfl, hs, hs, hs] at h2
        rw [hit, if_neg (by omega), if_neg (by omega), if_neg (by omega), if_neg (by omega)] at hh
        exact absurd (h2.symm.trans hh) (by simp)
      obtain ⟨e1, e2⟩ := no k hit0
      exact ⟨⟨k + 1, by omega⟩, ⟨congrArg (fun x => I x) step, rfl, rfl, rfl, congrArg (SV.o 3) e1, trivial⟩, ⟨⟨rfl, rfl⟩, ⟨rfl, rfl⟩, trivial, ⟨rfl, rfl, e1, e1, fun j _ => congrArg (fun x => [I x]) (e2 j)⟩, ⟨rfl, rfl⟩, trivial⟩, by show 9 - (k + 1) < 9 - k; omega⟩)⟩⟩
  · have hk' : k = 9 := by simp [std] at hle; omega
    subst hk' hln hg
    refine ⟨rfl, ?_⟩
    rw [hr, chk, if_neg h0]; exact ⟨_, rfl, fun j _ => rfl⟩
end Go.Sx.At
