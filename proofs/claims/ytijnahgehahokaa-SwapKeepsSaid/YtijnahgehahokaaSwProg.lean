/- Swap: the program's swaps. -/
import Derived.Test.YtijnahgehahokaaSwRep
set_option linter.unusedVariables false
set_option linter.unusedSimpArgs false
namespace Go.Sx.Sw
open Go.Sx Go.Proofs Go.Sx.Bn
set_option maxRecDepth 100000
set_option maxHeartbeats 8000000
theorem vc46 (n : Nat) (hn0 : n ≤ 1000000) (get : Nat → List SV) (κ : TypeId → Nat → Nat → (Nat → List SV) → Prop) (hκ : κ 62 4 n get) : runF std tab noΓ noΔ 2 46 [.rs 4 n get] [] (finRow std κ) := by
  obtain ⟨O, hO⟩ : ∃ O, O = std := ⟨_, rfl⟩
  rw [← hO]
  obtain ⟨ar, cmp, neg, cv, mx, mn, nt, ite, beq, scmp, cat, sub, byte, ssz, of, nat, nadd, nsub, sel, inb, inc, le, ne0, nneg, eqn, room⟩ := O
  cbv
  intro b hb
  cbv
  obtain ⟨rfl, rfl, rfl, rfl, rfl, rfl, rfl, rfl, rfl, rfl, rfl, rfl, rfl, rfl, rfl, rfl, rfl, rfl, rfl, rfl, rfl, rfl, rfl, rfl, rfl, rfl⟩ := leaf_eq hO
  clear hO
  refine ⟨fun h => ⟨rfl, get, fun j hj => absurd hj (Nat.not_lt_zero j), by have := hb h; subst this; exact hκ⟩, fun h => ⟨rfl, by simp only [s_room, s_nadd, maxLen]; omega, rfl, get, fun j _ => rfl, by simp only [s_nadd, Nat.zero_add]; exact hκ⟩⟩
/-- Contracts of what the program's swaps call. -/
def ΔP (O : Leaf) (zz : ByteArray → Nat) (er l k0 k1 w sp : ByteArray → Int) (bd : ByteArray → ByteArray) : Contracts := fun f => match f with
  | 46 => some fun args H κ => match args with | [.rs 4 n get] => n ≤ 1000000 ∧ κ (.o H.length 0) (H ++ [.row 62 4 n get 0]) | _ => False
  | 57 => ΔT zz er l k0 k1 w sp bd 57
  | 55 => Bld.conB O 55
  | 66 => Bld.conB O 66
  | _ => none
theorem ΔP_ok : ContractsOk Try.prog (ΔP std ByteArray.size err ln b0 b1 wn sp bdy) := by
  constructor
  intro f m hm
  unfold ΔP at hm
  split at hm
  · cases hm
    have := rowCon_ok (f := 46) (m := fun args κ => ∃ n get, args = [.rs 4 n get] ∧ n ≤ 1000000 ∧ κ 62 4 n get) (runF_ok tab_ok noΓ_ok noΔ_ok 2) (fun args κ ⟨n, get, ha, hn, hκ⟩ => by subst ha; exact ⟨rfl, vc46 n hn get κ hκ⟩)
    rintro g args H κ ⟨rfl, h⟩
    refine this _ args H κ ⟨rfl, ?_⟩
    split at h
    · exact ⟨_, _, rfl, h.1, h.2⟩
    · exact h.elim
  · exact ΔT_ok.ok _ _ hm
  · exact Bld.conB_ok.ok _ _ hm
  · exact Bld.conB_ok.ok _ _ hm
  · cases hm
theorem vc26g (K C U : Nat → Int) (B : Nat → ByteArray) (n : Nat) (hn0 : n ≤ 150) (hB : ∀ i, i < n → (B i).size ≤ 20000) (cs ns : Nat → Int) (ys : FB) (m : Nat) (hm : m ≤ 1000) (hy : ∀ j, j < m → (ys j).size ≤ 20000) (Q : SV → Heap → Prop) (hQ : Q (.o 1 0) [.gone, .row 62 4 n (evC K C U (swps K C n cs ns ys B m)) 0]) :
    runF std tab (Γk kn asks) (ΔP std ByteArray.size err ln b0 b1 wn sp bdy) 7 26 [.rs 4 n (evC K C U B), .rs 3 m (swC cs ns ys)] [] Q := by
  obtain ⟨xT, hxT⟩ : ∃ f : Nat → Int → Nat → ByteArray, f = fun j c => hs K C (swps K C n cs ns ys B j) c n := ⟨_, rfl⟩
  obtain ⟨bg, hbg⟩ : ∃ b, b = bA := ⟨_, rfl⟩
  obtain ⟨xL, hxL⟩ : ∃ f : Nat → Nat → FB, f = fun j k => lb (hg K C (cs j) n) (swps K C n cs ns ys B (j + 1)) (swps K C n cs ns ys B j) k := ⟨_, rfl⟩
  obtain ⟨xR, hxR⟩ : ∃ f : Nat → Nat → Nat → ByteArray, f = fun j i k => xrest (rep (sm K C (swps K C n cs ns ys B j) (cs j) n) (pos (sm K C (swps K C n cs ns ys B j) (cs j) n) i + 4) (ys j)) (hs K C (swps K C n cs ns ys B j) (cs j) n k).size := ⟨_, rfl⟩
  obtain ⟨sf, hsf⟩ : ∃ f : Nat → SV, f = fun k => if k = 0 then .v (.pointer none) else .p 8 0 := ⟨_, rfl⟩
  have sf0 : sf 0 = .v (.pointer none) := by rw [hsf]; rfl
  have sf1 : ∀ k, sf (k + 1) = .p 8 0 := fun k => by rw [hsf]; simp
  have sfd : ∀ k, sf k = .v (.pointer none) ∨ sf k = .p 8 0 := fun k => by cases k with | zero => exact .inl sf0 | succ k => exact .inr (sf1 k)
  obtain ⟨O, hO⟩ : ∃ O, O = std := ⟨_, rfl⟩
  obtain ⟨zz, hzz⟩ : ∃ x, x = ByteArray.size := ⟨_, rfl⟩
  obtain ⟨xe, hxe⟩ : ∃ x, x = err := ⟨_, rfl⟩
  obtain ⟨xl, hxl⟩ : ∃ x, x = ln := ⟨_, rfl⟩
  obtain ⟨x0, hx0⟩ : ∃ x, x = b0 := ⟨_, rfl⟩
  obtain ⟨x1, hx1⟩ : ∃ x, x = b1 := ⟨_, rfl⟩
  obtain ⟨xw, hxw⟩ : ∃ x, x = wn := ⟨_, rfl⟩
  obtain ⟨xs, hxs⟩ : ∃ x, x = sp := ⟨_, rfl⟩
  obtain ⟨xb, hxb⟩ : ∃ x, x = bdy := ⟨_, rfl⟩
  obtain ⟨xc, hxc⟩ : ∃ x, x = castI := ⟨_, rfl⟩
  obtain ⟨xa, hxa⟩ : ∃ x, x = asks := ⟨_, rfl⟩
  obtain ⟨xk, hxk⟩ : ∃ x, x = kn := ⟨_, rfl⟩
  obtain ⟨W, hW⟩ : ∃ x, x = swps K C n cs ns ys B := ⟨_, rfl⟩
  obtain ⟨xo, hxo⟩ : ∃ x, x = opn K := ⟨_, rfl⟩
  obtain ⟨xN, hxN⟩ : ∃ x, x = hn K C := ⟨_, rfl⟩
  obtain ⟨xG, hxG⟩ : ∃ x, x = hg K C := ⟨_, rfl⟩
  obtain ⟨ps, hps⟩ : ∃ x, x = pos := ⟨_, rfl⟩
  obtain ⟨xM, hxM⟩ : ∃ x, x = nf := ⟨_, rfl⟩
  rw [← hO]
  try rw [← hzz]
  try rw [← hxe]
  try rw [← hxl]
  try rw [← hx0]
  try rw [← hx1]
  try rw [← hxw]
  try rw [← hxs]
  try rw [← hxb]
  try rw [← hxc]
  try rw [← hxa]
  try rw [← hxk]
  try rw [← hW]
  try rw [← hxo]
  try rw [← hxN]
  try rw [← hxG]
  try rw [← hps]
  try rw [← hxM]
  obtain ⟨ar, cmp, neg, cv, mx, mn, nt, ite, beq, scmp, cat, sub, byte, ssz, of, nat, nadd, nsub, sel, inb, inc, le, ne0, nneg, eqn, room⟩ := O
  cbv
  have hxck : ∀ k, xc k = castI k := fun k => by rw [hxc]
  refine ⟨by show n ≤ 1000000; omega, {j : Nat // j ≤ m}, fun j => [(12, I (xc j.1)), (11, I (of m)), (10, .rs 3 m (swC cs ns ys)), (5, .o 1 0)], fun j => [.gone, .row 62 4 n (evC K C U (W j.1)) 0], fun j => m - j.1, ⟨0, by omega⟩, fun j => by cbv, ?_, ?_, fun j => ?_⟩
  · subst hxc; exact ⟨rfl, rfl, rfl, rfl, trivial⟩
  · subst hW; exact ⟨trivial, ⟨rfl, rfl, rfl, rfl, fun j _ => rfl⟩, trivial⟩
  obtain ⟨j, hj⟩ := j
  cbv
  refine ⟨fun h => ?_, fun h => ?_⟩
  rotate_left
  · skip
    obtain ⟨rfl, rfl, rfl, rfl, rfl, rfl, rfl, rfl, rfl, rfl, rfl, rfl, rfl, rfl, rfl, rfl, rfl, rfl, rfl, rfl, rfl, rfl, rfl, rfl, rfl, rfl⟩ := leaf_eq hO
    clear hO
    have : j = m := by
      rw [hxc] at h
      have : ¬ j < m := by simpa [s_lss, s_castI, s_of] using h
      omega
    subst this
    rw [hW]
    exact hQ
  have hjm : j < m := by
    obtain ⟨rfl, rfl, rfl, rfl, rfl, rfl, rfl, rfl, rfl, rfl, rfl, rfl, rfl, rfl, rfl, rfl, rfl, rfl, rfl, rfl, rfl, rfl, rfl, rfl, rfl, rfl⟩ := leaf_eq hO
    clear hO
    rw [hxc] at h; simpa [s_lss, s_castI, s_of] using h
  clear h
  have hnj : nat (xc j) = j := by
    obtain ⟨rfl, rfl, rfl, rfl, rfl, rfl, rfl, rfl, rfl, rfl, rfl, rfl, rfl, rfl, rfl, rfl, rfl, rfl, rfl, rfl, rfl, rfl, rfl, rfl, rfl, rfl⟩ := leaf_eq hO
    clear hO
    rw [hxc]; simp [s_nat, s_castI]
  refine ⟨?_, ?_, {i : Nat // i ≤ n}, fun i => [(11, I (xc i.1)), (10, I (of n)), (9, .o 1 0), (6, I (xc (xo i.1))), (5, .o 6 (xN (cs (nat (xc j))) i.1)), (1, I (cs (nat (xc j))))],
    fun i => [.gone, .row 62 4 n (evC K C U (W j)) 0, .gone, .cells [I (cs (nat (xc j))), I (ns (nat (xc j))), St (ys (nat (xc j)))] 66, .cells [.o 1 0] 49, .gone, .row 3 1 (xN (cs (nat (xc j))) i.1) (fun z => [I (xc (xG (cs (nat (xc j))) i.1 z))]) (xN (cs (nat (xc j))) i.1)], fun i => n - i.1, ⟨0, by omega⟩, fun i => by cbv, ?_, ?_, fun i => ?_⟩
  · skip
    obtain ⟨rfl, rfl, rfl, rfl, rfl, rfl, rfl, rfl, rfl, rfl, rfl, rfl, rfl, rfl, rfl, rfl, rfl, rfl, rfl, rfl, rfl, rfl, rfl, rfl, rfl, rfl⟩ := leaf_eq hO
    clear hO
    rw [hxc]; simp only [s_inb, s_castI]; omega
  · skip
    obtain ⟨rfl, rfl, rfl, rfl, rfl, rfl, rfl, rfl, rfl, rfl, rfl, rfl, rfl, rfl, rfl, rfl, rfl, rfl, rfl, rfl, rfl, rfl, rfl, rfl, rfl, rfl⟩ := leaf_eq hO
    clear hO
    rfl
  · subst hxc hxN hxo; exact ⟨rfl, rfl, rfl, rfl, rfl, rfl, trivial⟩
  · subst hxN; exact ⟨trivial, ⟨rfl, rfl, rfl, rfl, fun j _ => rfl⟩, trivial, ⟨rfl, rfl⟩, ⟨rfl, rfl⟩, trivial, ⟨rfl, rfl, rfl, rfl, fun j hj => absurd hj (Nat.not_lt_zero j)⟩, trivial⟩
  obtain ⟨i, hi⟩ := i
  cbv
  have hni : nat (xc i) = i := by
    obtain ⟨rfl, rfl, rfl, rfl, rfl, rfl, rfl, rfl, rfl, rfl, rfl, rfl, rfl, rfl, rfl, rfl, rfl, rfl, rfl, rfl, rfl, rfl, rfl, rfl, rfl, rfl⟩ := leaf_eq hO
    clear hO
    rw [hxc]; simp [s_nat, s_castI]
  have hoi : opn K i ≤ i := opn_le K i
  have hcd := hcond K C (cs (nat (xc j))) i
  have hnl : hn K C (cs (nat (xc j))) i ≤ i := hl_len K C (cs (nat (xc j))) i
  have hk1 : K i = 1 → hr K C (cs (nat (xc j))) i = false := fun h => by unfold hr; simp [h]
  have hn0' : hr K C (cs (nat (xc j))) i = false → hn K C (cs (nat (xc j))) (i + 1) = hn K C (cs (nat (xc j))) i := fun h => by simp [hn, hl, h]
  have hn1 : hr K C (cs (nat (xc j))) i = true → hn K C (cs (nat (xc j))) (i + 1) = hn K C (cs (nat (xc j))) i + 1 ∧ hg K C (cs (nat (xc j))) (i + 1) (hn K C (cs (nat (xc j))) i) = i := fun h => by simp [hn, hl, hg, h]
  have hpre : ∀ j', j' < hn K C (cs (nat (xc j))) i → hg K C (cs (nat (xc j))) (i + 1) j' = hg K C (cs (nat (xc j))) i j' := fun j' hj => hg_pre hj
  refine ⟨fun h1 => ?_, fun h1 => ?_⟩
  · skip
    obtain ⟨rfl, rfl, rfl, rfl, rfl, rfl, rfl, rfl, rfl, rfl, rfl, rfl, rfl, rfl, rfl, rfl, rfl, rfl, rfl, rfl, rfl, rfl, rfl, rfl, rfl, rfl⟩ := leaf_eq hO
    clear hO
    have e1 : i < n → std.ar .add .i64 (xc i) 1 = xc (i + 1) := fun h => by rw [hxc]; simp (disch := omega) only [s_castI, s_add]; omega
    have e2 : std.ar .add .i64 (xc (xo i)) 1 = ((opn K i : Int)) + 1 := by rw [hxc, hxo]; simp (disch := omega) only [s_castI, s_add]
    have h1' : i < n := by rw [hxc] at h1; simpa [s_lss, s_castI, s_of] using h1
    have e1 := e1 h1'
    refine ⟨⟨rfl, by rw [hxc]; simp only [s_inb, s_castI]; omega⟩, ⟨rfl, by simp only [s_le, s_nadd, hni]; omega⟩, fun h2 => ?_, fun h2 => ⟨⟨fun _ => trivial, trivial⟩, ⟨fun _ => trivial, trivial⟩, ⟨fun _ => trivial, trivial⟩, fun h3 => ?_, fun h3 => ?_⟩⟩
    · simp only [hni, s_eql, d_true] at h2
      have e0 := hn0' (hk1 h2)
      subst hxc hxN hxG hxo
      refine ⟨⟨i + 1, by omega⟩, ⟨congrArg (fun x => I x) e1, rfl, rfl, congrArg (fun x => I x) (by show std.ar _ _ _ _ = ((opn K (i + 1) : Nat) : Int); rw [e2, opn, if_pos h2]; omega), congrArg (SV.o 6) e0.symm, rfl, trivial⟩, ⟨trivial, ⟨rfl, rfl, rfl, rfl, fun j _ => rfl⟩, trivial, ⟨rfl, rfl⟩, ⟨rfl, rfl⟩, trivial, ⟨rfl, rfl, e0.symm, e0.symm, fun j hj => congrArg (fun x : Nat => [I (x : Int)]) (hpre j hj).symm⟩, trivial⟩, by simp only; omega⟩
    · simp only [hni, s_eql, s_geq, s_lss, s_mn, s_ite, d_true, d_false, show xc (xo i) = ((opn K i : Nat) : Int) by rw [hxc, hxo]; rfl] at h3 h2
      rw [hcd] at h3
      obtain ⟨e0, e3⟩ := hn1 h3
      subst hxc hxN hxG hxo
      refine ⟨rfl, by simp only [s_room, s_nadd, maxLen]; omega, ⟨i + 1, by omega⟩, ⟨congrArg (fun x => I x) e1, rfl, rfl, congrArg (fun x => I x) (by show ((opn K i : Nat) : Int) = ((opn K (i + 1) : Nat) : Int); rw [opn, if_neg h2]; omega), congrArg (SV.o 6) e0.symm, rfl, trivial⟩, ⟨trivial, ⟨rfl, rfl, rfl, rfl, fun j _ => rfl⟩, trivial, ⟨rfl, rfl⟩, ⟨rfl, rfl⟩, trivial, ⟨rfl, rfl, e0.symm, e0.symm, ?_⟩, trivial⟩, by simp only; omega⟩
      exact app_chunk (g := fun j' => [I ((hg K C (cs (std.nat (castI j))) i j' : Nat) : Int)]) (g' := fun j' => [I ((hg K C (cs (std.nat (castI j))) (i + 1) j' : Nat) : Int)]) (x := [I (i : Int)]) rfl (fun j hj => congrArg (fun x : Nat => [I (x : Int)]) (hpre j hj).symm) (by rw [e3])
    · simp only [hni, s_eql, s_geq, s_lss, s_mn, s_ite, d_true, d_false, show xc (xo i) = ((opn K i : Nat) : Int) by rw [hxc, hxo]; rfl] at h3 h2
      rw [hcd] at h3
      have e0 := hn0' h3
      subst hxc hxN hxG hxo
      refine ⟨⟨i + 1, by omega⟩, ⟨congrArg (fun x => I x) e1, rfl, rfl, congrArg (fun x => I x) (by show ((opn K i : Nat) : Int) = ((opn K (i + 1) : Nat) : Int); rw [opn, if_neg h2]; omega), congrArg (SV.o 6) e0.symm, rfl, trivial⟩, ⟨trivial, ⟨rfl, rfl, rfl, rfl, fun j _ => rfl⟩, trivial, ⟨rfl, rfl⟩, ⟨rfl, rfl⟩, trivial, ⟨rfl, rfl, e0.symm, e0.symm, fun j hj => congrArg (fun x : Nat => [I (x : Int)]) (hpre j hj).symm⟩, trivial⟩, by simp only; omega⟩
  have hin : n = i := by
    obtain ⟨rfl, rfl, rfl, rfl, rfl, rfl, rfl, rfl, rfl, rfl, rfl, rfl, rfl, rfl, rfl, rfl, rfl, rfl, rfl, rfl, rfl, rfl, rfl, rfl, rfl, rfl⟩ := leaf_eq hO
    clear hO
    rw [hxc] at h1
    have : ¬ i < n := by simpa [s_lss, s_castI, s_of] using h1
    omega
  subst hin
  clear h1 hni hoi hcd hnl hk1 hn0' hn1 hpre
  cbv
  have hBs : ∀ i, i < n → (W j i).size ≤ 20000 := fun i hi => by rw [hW, swps_size]; exact hB i hi
  have hTk : ∀ k, k ≤ xN (cs (nat (xc j))) n → ((xT j (cs (nat (xc j)))) k).size ≤ 20000 * k := fun k hk => by rw [hxT]; rw [hxN] at hk; exact hs_size (fun i hi => by rw [swps_size]; exact hB i hi) k hk
  have hNn : xN (cs (nat (xc j))) n ≤ n := by rw [hxN]; exact hl_len K C (cs (nat (xc j))) n
  refine ⟨?_, {k : Nat // k ≤ xN (cs (nat (xc j))) n}, fun k => [(15, I (xc k.1)), (14, I (of (xN (cs (nat (xc j))) n))), (13, .o 6 (xN (cs (nat (xc j))) n)), (7, .p 8 0), (6, .p 7 0), (2, .p 4 0)],
    fun k => [.gone, .row 62 4 n (evC K C U (W j)) 0, .gone, .cells [I (cs (nat (xc j))), I (ns (nat (xc j))), St (ys (nat (xc j)))] 66, .cells [.o 1 0] 49, .gone, .row 3 1 (xN (cs (nat (xc j))) n) (fun z => [I (xc (xG (cs (nat (xc j))) n z))]) (xN (cs (nat (xc j))) n), .cells [.o 6 (xN (cs (nat (xc j))) n)] 22, .cells [sf k.1, .o 9 k.1] 112, .row 5 1 (ssz ((xT j (cs (nat (xc j)))) k.1)) (bg ((xT j (cs (nat (xc j)))) k.1)) k.1], fun k => xN (cs (nat (xc j))) n - k.1, ⟨0, by omega⟩, fun k => ⟨?_, ?_, ?_⟩, ?_, ?_, fun k => ?_⟩
  · skip
    obtain ⟨rfl, rfl, rfl, rfl, rfl, rfl, rfl, rfl, rfl, rfl, rfl, rfl, rfl, rfl, rfl, rfl, rfl, rfl, rfl, rfl, rfl, rfl, rfl, rfl, rfl, rfl⟩ := leaf_eq hO
    clear hO
    rfl
  · cbv
  · cbv
  · have := sfd k.1
    cbv
    rcases this with e | e <;> (rw [e]; try rfl)
  · subst hxc; exact ⟨rfl, rfl, rfl, rfl, rfl, rfl, trivial⟩
  · subst hxT hbg
    exact ⟨trivial, ⟨rfl, rfl, rfl, rfl, fun j _ => rfl⟩, trivial, ⟨rfl, rfl⟩, ⟨rfl, rfl⟩, trivial, ⟨rfl, rfl, rfl, rfl, fun j _ => rfl⟩, ⟨rfl, rfl⟩, ⟨by rw [sf0], rfl⟩, ⟨rfl, rfl, by obtain ⟨_, _, _, _, _, _, _, _, _, _, _, _, _, rfl, _⟩ := leaf_eq hO; rfl, rfl, fun j hj => absurd hj (Nat.not_lt_zero j)⟩, trivial⟩
  obtain ⟨k, hk⟩ := k
  cbv
  refine ⟨fun h1 => ?_, fun h1 => ?_⟩
  · skip
    obtain ⟨rfl, rfl, rfl, rfl, rfl, rfl, rfl, rfl, rfl, rfl, rfl, rfl, rfl, rfl, rfl, rfl, rfl, rfl, rfl, rfl, rfl, rfl, rfl, rfl, rfl, rfl⟩ := leaf_eq hO
    clear hO
    have hkk : std.nat (xc k) = k := by rw [hxc]; simp [s_nat, s_castI]
    have hkl : k < xN (cs (std.nat (xc j))) n := by have h1' : std.cmp .lss (xc k) (std.of (xN (cs (std.nat (xc j))) n)) = true := h1; rw [hxck k] at h1'; simpa [s_lss, s_of, s_castI] using h1'
    have hG : std.nat (xc (xG (cs (std.nat (xc j))) n k)) = xG (cs (std.nat (xc j))) n k := by rw [hxc]; simp [s_nat, s_castI]
    have hg1 : xG (cs (std.nat (xc j))) n k < n := by rw [hxG]; rw [hxN] at hkl; exact (hg_lt hkl).1
    have hs1 := hTk k hk
    have hb1 := hBs _ hg1
    have hT1 : xT j (cs (std.nat (xc j))) (k + 1) = xT j (cs (std.nat (xc j))) k ++ W j (xG (cs (std.nat (xc j))) n k) := by rw [hxT, hxG, hW]; rfl
    have e1 : std.ar .add .i64 (xc k) 1 = xc (k + 1) := by rw [hxc]; simp (disch := omega) only [s_castI, s_add]; omega
    simp only [hkk, hG]
    refine ⟨⟨rfl, by rw [hxck k]; simp only [s_inb, s_castI]; omega⟩, ⟨rfl, by simp only [s_le, s_nadd]; omega⟩, ⟨rfl, by rw [hxck (xG (cs (std.nat (xc j))) n k)]; simp only [s_inb, s_castI]; omega⟩, ⟨rfl, by simp only [s_le, s_nadd]; omega⟩, sfd k, rfl, by simp only [s_room, s_nadd, s_ssz, maxLen]; omega, ⟨k + 1, by omega⟩, ⟨congrArg (fun x => I x) e1, rfl, rfl, rfl, rfl, rfl, trivial⟩, ⟨trivial, ⟨rfl, rfl, rfl, rfl, fun j _ => rfl⟩, trivial, ⟨rfl, rfl⟩, ⟨rfl, rfl⟩, trivial, ⟨rfl, rfl, rfl, rfl, fun j _ => rfl⟩, ⟨rfl, rfl⟩, ⟨by rw [sf1]; rfl, rfl⟩, ⟨rfl, rfl, ?_, rfl, ?_⟩, trivial⟩, by simp only; omega⟩
    · show (xT j (cs (std.nat (xc j))) k).size + (W j _).size = (xT j (cs (std.nat (xc j))) (k + 1)).size
      rw [hT1, ByteArray.size_append]
    · intro j' hj
      have hj' : j' < (xT j (cs (std.nat (xc j))) k).size + (W j (xG (cs (std.nat (xc j))) n k)).size := hj
      show app (xT j (cs (std.nat (xc j))) k).size (bg (xT j (cs (std.nat (xc j))) k)) (bytesG std (W j (xG (cs (std.nat (xc j))) n k))) j' = bg (xT j (cs (std.nat (xc j))) (k + 1)) j'
      rw [hbg, hT1]; exact app_bytes _ _ j' hj'
  have hkm : k = xN (cs (nat (xc j))) n := by
    obtain ⟨rfl, rfl, rfl, rfl, rfl, rfl, rfl, rfl, rfl, rfl, rfl, rfl, rfl, rfl, rfl, rfl, rfl, rfl, rfl, rfl, rfl, rfl, rfl, rfl, rfl, rfl⟩ := leaf_eq hO
    clear hO
    have h1' : std.cmp .lss (xc k) (std.of (xN (cs (std.nat (xc j))) n)) = false := h1
    rw [hxck k] at h1'
    have : ¬ k < xN (cs (std.nat (xc j))) n := by simpa [s_lss, s_of, s_castI] using h1'
    omega
  subst hkm
  clear h1
  refine ⟨?_, (xT j (cs (nat (xc j))) (xN (cs (nat (xc j))) n)), ?_, ?_, ?_⟩
  · skip
    obtain ⟨rfl, rfl, rfl, rfl, rfl, rfl, rfl, rfl, rfl, rfl, rfl, rfl, rfl, rfl, rfl, rfl, rfl, rfl, rfl, rfl, rfl, rfl, rfl, rfl, rfl, rfl⟩ := leaf_eq hO
    clear hO
    rfl
  · skip
    obtain ⟨rfl, rfl, rfl, rfl, rfl, rfl, rfl, rfl, rfl, rfl, rfl, rfl, rfl, rfl, rfl, rfl, rfl, rfl, rfl, rfl, rfl, rfl, rfl, rfl, rfl, rfl⟩ := leaf_eq hO
    clear hO
    rfl
  · skip
    obtain ⟨rfl, rfl, rfl, rfl, rfl, rfl, rfl, rfl, rfl, rfl, rfl, rfl, rfl, rfl, rfl, rfl, rfl, rfl, rfl, rfl, rfl, rfl, rfl, rfl, rfl, rfl⟩ := leaf_eq hO
    clear hO
    intro j hj
    rw [hbg]; simp [bA, s_byte, s_of]
  cbv
  refine ⟨{i : Nat // i ≤ xM (xT j (cs (nat (xc j))) (xN (cs (nat (xc j))) n)) ∧ (i = 0 ∨ (i : Int) ≤ (ns (nat (xc j))))}, fun i => [(4, I (xc (ps (xT j (cs (nat (xc j))) (xN (cs (nat (xc j))) n)) i.1))), (0, St (xT j (cs (nat (xc j))) (xN (cs (nat (xc j))) n))), (1, .fn 60 [] [.p 12 0, .p 3 0, .p 11 0, .p 10 0])],
    fun i => [.gone, .row 62 4 n (evC K C U (W j)) 0, .gone, .cells [I (cs (nat (xc j))), I (ns (nat (xc j))), St (ys (nat (xc j)))] 66, .cells [.o 1 0] 49, .gone, .row 3 1 (xN (cs (nat (xc j))) n) (fun z => [I (xc (xG (cs (nat (xc j))) n z))]) (xN (cs (nat (xc j))) n), .cells [.o 6 (xN (cs (nat (xc j))) n)] 22, .gone, .gone, .cells [St (xT j (cs (nat (xc j))) (xN (cs (nat (xc j))) n))] 9, .cells [.fn 56 [] [.p 7 0, .p 4 0]] 86, .cells [I (xc i.1)] 3], fun i => xM (xT j (cs (nat (xc j))) (xN (cs (nat (xc j))) n)) - i.1, ⟨0, by omega, by omega⟩, fun i => by cbv, ?_, ?_, fun i => ?_⟩
  · subst hxc hps; exact ⟨rfl, rfl, rfl, trivial⟩
  · subst hxc; exact ⟨trivial, ⟨rfl, rfl, rfl, rfl, fun j _ => rfl⟩, trivial, ⟨rfl, rfl⟩, ⟨rfl, rfl⟩, trivial, ⟨rfl, rfl, rfl, rfl, fun j _ => rfl⟩, ⟨rfl, rfl⟩, trivial, trivial, ⟨rfl, rfl⟩, ⟨rfl, rfl⟩, ⟨rfl, rfl⟩, trivial⟩
  obtain ⟨i, hi, hi2⟩ := i
  cbv
  have hSS : (xT j (cs (nat (xc j))) (xN (cs (nat (xc j))) n)) = sm K C (W j) (cs (nat (xc j))) n := by rw [hxT, hxN, hW]; exact hs_all K C _ _ n
  have hSz : ((xT j (cs (nat (xc j))) (xN (cs (nat (xc j))) n))).size ≤ 3000000 := by have := sm_size (K := K) (C := C) (c := (cs (nat (xc j)))) hBs n (Nat.le_refl _); rw [hSS]; omega
  have hi' : i ≤ nf (xT j (cs (nat (xc j))) (xN (cs (nat (xc j))) n)) := by rw [hxM] at hi; exact hi
  have hp1 : pos (xT j (cs (nat (xc j))) (xN (cs (nat (xc j))) n)) i ≤ ((xT j (cs (nat (xc j))) (xN (cs (nat (xc j))) n))).size := (rst_eq (xT j (cs (nat (xc j))) (xN (cs (nat (xc j))) n)) i hi').1
  have hsub : sub (xT j (cs (nat (xc j))) (xN (cs (nat (xc j))) n)) (xc (ps (xT j (cs (nat (xc j))) (xN (cs (nat (xc j))) n)) i)) (of (ssz (xT j (cs (nat (xc j))) (xN (cs (nat (xc j))) n)))) = rst (xT j (cs (nat (xc j))) (xN (cs (nat (xc j))) n)) i := by
    obtain ⟨rfl, rfl, rfl, rfl, rfl, rfl, rfl, rfl, rfl, rfl, rfl, rfl, rfl, rfl, rfl, rfl, rfl, rfl, rfl, rfl, rfl, rfl, rfl, rfl, rfl, rfl⟩ := leaf_eq hO
    clear hO
    rw [hps, hxck (pos _ i)]; exact sub_rst _ i hi'
  have hlt : xe (sub (xT j (cs (nat (xc j))) (xN (cs (nat (xc j))) n)) (xc (ps (xT j (cs (nat (xc j))) (xN (cs (nat (xc j))) n)) i)) (of (ssz (xT j (cs (nat (xc j))) (xN (cs (nat (xc j))) n))))) = 0 → i < nf (xT j (cs (nat (xc j))) (xN (cs (nat (xc j))) n)) := by
    intro he
    rw [hsub, hxe] at he
    rcases Nat.lt_or_ge i (nf (xT j (cs (nat (xc j))) (xN (cs (nat (xc j))) n))) with h | h
    · exact h
    · have : i = nf (xT j (cs (nat (xc j))) (xN (cs (nat (xc j))) n)) := by omega
      rw [this] at he
      exact absurd he (nf_end _)
  have hW1 : W (j + 1) = swp K C n (W j) (cs (nat (xc j))) (ns (nat (xc j))) (ys (nat (xc j))) := by rw [hnj, hW]; rfl
  have hyes : xe (sub (xT j (cs (nat (xc j))) (xN (cs (nat (xc j))) n)) (xc (ps (xT j (cs (nat (xc j))) (xN (cs (nat (xc j))) n)) i)) (of (ssz (xT j (cs (nat (xc j))) (xN (cs (nat (xc j))) n))))) = 0 → ite (ite (cmp .eql (xc i) (ns (nat (xc j)))) (xa (x0 (sub (xT j (cs (nat (xc j))) (xN (cs (nat (xc j))) n)) (xc (ps (xT j (cs (nat (xc j))) (xN (cs (nat (xc j))) n)) i)) (of (ssz (xT j (cs (nat (xc j))) (xN (cs (nat (xc j))) n))))))) false) (cmp .eql (of (ssz (xb (sub (xT j (cs (nat (xc j))) (xN (cs (nat (xc j))) n)) (xc (ps (xT j (cs (nat (xc j))) (xN (cs (nat (xc j))) n)) i)) (of (ssz (xT j (cs (nat (xc j))) (xN (cs (nat (xc j))) n)))))))) (of (ssz (ys (nat (xc j)))))) false = true → castI i = (ns (nat (xc j))) ∧ can (xT j (cs (nat (xc j))) (xN (cs (nat (xc j))) n)) (ns (nat (xc j))) (ys (nat (xc j))) = true ∧ (fb (xT j (cs (nat (xc j))) (xN (cs (nat (xc j))) n)) i).size = ((ys (nat (xc j)))).size ∧ pos (xT j (cs (nat (xc j))) (xN (cs (nat (xc j))) n)) i + 4 + ((ys (nat (xc j)))).size ≤ ((xT j (cs (nat (xc j))) (xN (cs (nat (xc j))) n))).size := by
    intro he hc
    have hil := hlt he
    rw [hsub] at hc
    obtain ⟨rfl, rfl, rfl, rfl, rfl, rfl, rfl, rfl, rfl, rfl, rfl, rfl, rfl, rfl, rfl, rfl, rfl, rfl, rfl, rfl, rfl, rfl, rfl, rfl, rfl, rfl⟩ := leaf_eq hO
    clear hO
    rw [hxck i, hxa, hx0, hxb] at hc
    simp only [s_ite, s_eql, s_castI, s_of, s_ssz] at hc
    have h := can_yes _ _ _ i hil hc
    have := pos_room _ i hil
    exact ⟨h.1, h.2.1, h.2.2, by rw [← h.2.2]; exact this⟩
  have hno : xe (sub (xT j (cs (nat (xc j))) (xN (cs (nat (xc j))) n)) (xc (ps (xT j (cs (nat (xc j))) (xN (cs (nat (xc j))) n)) i)) (of (ssz (xT j (cs (nat (xc j))) (xN (cs (nat (xc j))) n))))) = 0 → ite (ite (cmp .eql (xc i) (ns (nat (xc j)))) (xa (x0 (sub (xT j (cs (nat (xc j))) (xN (cs (nat (xc j))) n)) (xc (ps (xT j (cs (nat (xc j))) (xN (cs (nat (xc j))) n)) i)) (of (ssz (xT j (cs (nat (xc j))) (xN (cs (nat (xc j))) n))))))) false) (cmp .eql (of (ssz (xb (sub (xT j (cs (nat (xc j))) (xN (cs (nat (xc j))) n)) (xc (ps (xT j (cs (nat (xc j))) (xN (cs (nat (xc j))) n)) i)) (of (ssz (xT j (cs (nat (xc j))) (xN (cs (nat (xc j))) n)))))))) (of (ssz (ys (nat (xc j)))))) false = false → ¬ (castI i + 1 ≤ (ns (nat (xc j)))) → W (j + 1) = W j := by
    intro he hc hl
    have hil := hlt he
    rw [hsub] at hc
    rw [hW1]
    refine swp_no K C n (W j) _ _ _ ?_
    rw [← hSS]
    obtain ⟨rfl, rfl, rfl, rfl, rfl, rfl, rfl, rfl, rfl, rfl, rfl, rfl, rfl, rfl, rfl, rfl, rfl, rfl, rfl, rfl, rfl, rfl, rfl, rfl, rfl, rfl⟩ := leaf_eq hO
    clear hO
    rw [hxck i, hxa, hx0, hxb] at hc
    simp only [s_ite, s_eql, s_castI, s_of, s_ssz] at hc
    exact can_no _ _ _ i hil hi2 hl hc
  have hend : ¬ xe (sub (xT j (cs (nat (xc j))) (xN (cs (nat (xc j))) n)) (xc (ps (xT j (cs (nat (xc j))) (xN (cs (nat (xc j))) n)) i)) (of (ssz (xT j (cs (nat (xc j))) (xN (cs (nat (xc j))) n))))) = 0 → W (j + 1) = W j := by
    intro he
    rw [hW1]
    refine swp_no K C n (W j) _ _ _ ?_
    rw [← hSS]
    rw [hsub, hxe] at he
    rcases Nat.lt_or_ge i (nf (xT j (cs (nat (xc j))) (xN (cs (nat (xc j))) n))) with h | h
    · exact absurd (nf_ok _ h) he
    · exact can_end _ _ _ i (by omega) hi2
  have hsum : i ≤ 3000000 := by have := nf_le (xT j (cs (nat (xc j))) (xN (cs (nat (xc j))) n)); omega
  have hi3 : i = 0 ∨ castI i ≤ (ns (nat (xc j))) := hi2
  have nxt : ∀ B1 : FB, B1 = W (j + 1) → ∀ p, p < n → evC K C U B1 p = evC K C U (W (j + 1)) p := fun B1 h p _ => by rw [h]
  refine ⟨?_, ?_, fun he => ⟨fun hx0 => ⟨⟨fun _ => trivial, trivial⟩, ⟨fun _ => trivial, trivial⟩, fun hcn => ⟨⟨?_, ?_, ?_, ?_, trivial⟩, ?_, ?_⟩, fun hcn => ⟨fun hlq => ?_, fun hlq => ?_⟩⟩, fun hx => ?_⟩, fun he => ⟨fun hx => ?_, fun hx => ⟨fun _ => ?_, fun h => by cases h⟩⟩⟩
  · skip
    obtain ⟨rfl, rfl, rfl, rfl, rfl, rfl, rfl, rfl, rfl, rfl, rfl, rfl, rfl, rfl, rfl, rfl, rfl, rfl, rfl, rfl, rfl, rfl, rfl, rfl, rfl, rfl⟩ := leaf_eq hO
    clear hO
    rw [hps, hxck (pos _ i)]; simp only [s_inc, s_castI, s_of, s_ssz]; omega
  · rw [hsub, hzz]
    have := rst_size _ hi'
    show (rst _ i).size ≤ 4611686018427387904
    omega
  · obtain ⟨h1, h2, h3, h4⟩ := hyes he hcn
    obtain ⟨rfl, rfl, rfl, rfl, rfl, rfl, rfl, rfl, rfl, rfl, rfl, rfl, rfl, rfl, rfl, rfl, rfl, rfl, rfl, rfl, rfl, rfl, rfl, rfl, rfl, rfl⟩ := leaf_eq hO
    clear hO
    rw [hps, hxck (pos _ i)]; rw [s_castI, s_add (by omega) (by omega)]; simp only [s_inc, s_of, s_ssz]; omega
  · obtain ⟨h1, h2, h3, h4⟩ := hyes he hcn
    obtain ⟨rfl, rfl, rfl, rfl, rfl, rfl, rfl, rfl, rfl, rfl, rfl, rfl, rfl, rfl, rfl, rfl, rfl, rfl, rfl, rfl, rfl, rfl, rfl, rfl, rfl, rfl⟩ := leaf_eq hO
    clear hO
    simp only [s_le, s_nadd, s_ssz, s_subs, ByteArray.size_extract]; omega
  · obtain ⟨h1, h2, h3, h4⟩ := hyes he hcn
    obtain ⟨rfl, rfl, rfl, rfl, rfl, rfl, rfl, rfl, rfl, rfl, rfl, rfl, rfl, rfl, rfl, rfl, rfl, rfl, rfl, rfl, rfl, rfl, rfl, rfl, rfl, rfl⟩ := leaf_eq hO
    clear hO
    rw [hps, hxck (pos _ i), s_of, s_ssz, at_two _ _ (by omega)]; simp only [s_inc, s_of, s_ssz]; omega
  · obtain ⟨h1, h2, h3, h4⟩ := hyes he hcn
    obtain ⟨rfl, rfl, rfl, rfl, rfl, rfl, rfl, rfl, rfl, rfl, rfl, rfl, rfl, rfl, rfl, rfl, rfl, rfl, rfl, rfl, rfl, rfl, rfl, rfl, rfl, rfl⟩ := leaf_eq hO
    clear hO
    simp only [s_le, s_nadd, s_ssz, s_subs, s_cat, ByteArray.size_append, ByteArray.size_extract]; omega
  · skip
    obtain ⟨rfl, rfl, rfl, rfl, rfl, rfl, rfl, rfl, rfl, rfl, rfl, rfl, rfl, rfl, rfl, rfl, rfl, rfl, rfl, rfl, rfl, rfl, rfl, rfl, rfl, rfl⟩ := leaf_eq hO
    clear hO
    rfl
  · have hy1 := (hyes he hcn).1
    have hy2 := (hyes he hcn).2.1
    have hy4 := (hyes he hcn).2.2.2
    have hRk : ∀ k, xR j i k = xrest (rep (xT j (cs (nat (xc j))) (xN (cs (nat (xc j))) n)) (pos (xT j (cs (nat (xc j))) (xN (cs (nat (xc j))) n)) i + 4) (ys (nat (xc j)))) (xT j (cs (nat (xc j))) k).size := fun k => by rw [hxR, hSS, hxT, hnj, hW]
    have hA : W (j + 1) = fun p => if hr K C (cs (nat (xc j))) p = true then ovl (W j p) (so K C (W j) (cs (nat (xc j))) p) (pos (xT j (cs (nat (xc j))) (xN (cs (nat (xc j))) n)) i + 4) (ys (nat (xc j))) else W j p := by
      have e : Int.toNat (ns (nat (xc j))) = i := by rw [← hy1]; exact Int.toNat_natCast i
      rw [hSS] at hy2
      rw [hW1, swp_yes K C n (W j) _ _ _ hy2, hSS, e]
    refine ⟨{k : Nat // k ≤ xN (cs (nat (xc j))) n}, fun k => [(9, I (xc k.1)), (8, I (of (xN (cs (nat (xc j))) n))), (7, .o 6 (xN (cs (nat (xc j))) n)), (0, St (xR j i k.1)), (1, .p 7 0), (2, .p 4 0)], fun k => [.gone, .row 62 4 n (evC K C U (xL j k.1)) 0, .gone, .cells [I (cs (nat (xc j))), I (ns (nat (xc j))), St (ys (nat (xc j)))] 66, .cells [.o 1 0] 49, .gone, .row 3 1 (xN (cs (nat (xc j))) n) (fun z => [I (xc (xG (cs (nat (xc j))) n z))]) (xN (cs (nat (xc j))) n), .cells [.o 6 (xN (cs (nat (xc j))) n)] 22, .gone, .gone, .cells [St (xT j (cs (nat (xc j))) (xN (cs (nat (xc j))) n))] 9, .cells [.fn 56 [] [.p 7 0, .p 4 0]] 86, .cells [I (xc i)] 3, .gone, .gone], fun k => xN (cs (nat (xc j))) n - k.1, ⟨0, by omega⟩, fun k => by cbv, ?_, ?_, fun k => ?_⟩
    · skip
      obtain ⟨rfl, rfl, rfl, rfl, rfl, rfl, rfl, rfl, rfl, rfl, rfl, rfl, rfl, rfl, rfl, rfl, rfl, rfl, rfl, rfl, rfl, rfl, rfl, rfl, rfl, rfl⟩ := leaf_eq hO
      clear hO
      refine ⟨congrArg (fun x => I x) (hxck 0).symm, rfl, rfl, congrArg (fun x => St x) ?_, rfl, rfl, trivial⟩
      show std.cat (std.cat (std.sub _ 0 (std.ar .add .i64 (xc (ps _ i)) 4)) _) (std.sub _ (std.ar .add .i64 (std.ar .add .i64 (xc (ps _ i)) 4) (std.of (std.ssize _))) (std.of (std.ssize _))) = xR j i 0
      have ht0 : (xT j (cs (std.nat (xc j))) 0).size = 0 := by rw [hxT]; rfl
      rw [hps, hxck (pos _ i), cat_rep _ _ _ hy4 hSz, hRk 0, ht0, xrest_zero]
    · skip
      obtain ⟨rfl, rfl, rfl, rfl, rfl, rfl, rfl, rfl, rfl, rfl, rfl, rfl, rfl, rfl, rfl, rfl, rfl, rfl, rfl, rfl, rfl, rfl, rfl, rfl, rfl, rfl⟩ := leaf_eq hO
      clear hO
      refine ⟨trivial, ⟨rfl, rfl, rfl, rfl, fun q _ => ?_⟩, trivial, ⟨rfl, rfl⟩, ⟨rfl, rfl⟩, trivial, ⟨rfl, rfl, rfl, rfl, fun j _ => rfl⟩, ⟨rfl, rfl⟩, trivial, trivial, ⟨rfl, rfl⟩, ⟨rfl, rfl⟩, ⟨rfl, rfl⟩, trivial, trivial, trivial⟩
      show evC K C U (W j) q = evC K C U (xL j 0) q
      rw [hxL, hW]; simp only [lb_zero]
    obtain ⟨k, hk⟩ := k
    cbv
    have hLs : ∀ p, (xL j k p).size = (W j p).size := fun p => by rw [hxL, hW]; exact lb_size _ _ _ (fun p => by rw [swps, swp_size]) k p
    refine ⟨fun h1 => ?_, fun h1 => ⟨fun hlq => ?_, fun hlq => ?_⟩⟩
    · skip
      obtain ⟨rfl, rfl, rfl, rfl, rfl, rfl, rfl, rfl, rfl, rfl, rfl, rfl, rfl, rfl, rfl, rfl, rfl, rfl, rfl, rfl, rfl, rfl, rfl, rfl, rfl, rfl⟩ := leaf_eq hO
      clear hO
      have hkk : std.nat (xc k) = k := by rw [hxck]; simp [s_nat, s_castI]
      have hkl : k < xN (cs (std.nat (xc j))) n := by have h1' : std.cmp .lss (xc k) (std.of (xN (cs (std.nat (xc j))) n)) = true := h1; rw [hxck k] at h1'; simpa [s_lss, s_of, s_castI] using h1'
      have hkl' : k < hn K C (cs (std.nat (xc j))) n := by rw [hxN] at hkl; exact hkl
      have hG : std.nat (xc (xG (cs (std.nat (xc j))) n k)) = xG (cs (std.nat (xc j))) n k := by rw [hxck]; simp [s_nat, s_castI]
      have hg1 : xG (cs (std.nat (xc j))) n k < n := by rw [hxG]; exact (hg_lt hkl').1
      obtain ⟨ht1, ht2, _⟩ := hs_at K C (W j) (cs (std.nat (xc j))) n hkl'
      rw [hSS] at hSz hy4
      have hTT : (xT j (cs (std.nat (xc j))) k) = hs K C (W j) (cs (std.nat (xc j))) n k := by rw [hxT, hW]
      have hTT1 : (xT j (cs (std.nat (xc j))) (k + 1)) = hs K C (W j) (cs (std.nat (xc j))) n (k + 1) := by rw [hxT, hW]
      have hgx : xG (cs (std.nat (xc j))) n k = hg K C (cs (std.nat (xc j))) n k := by rw [hxG]
      have e1 : std.ar .add .i64 (xc k) 1 = xc (k + 1) := by rw [hxck k, hxck (k + 1)]; simp (disch := omega) only [s_castI, s_add]; omega
      have hz1 : std.of (std.ssize (xL j k (xG (cs (std.nat (xc j))) n k))) = ((W j (hg K C (cs (std.nat (xc j))) n k)).size : Int) := by rw [s_of, s_ssz, hLs, hgx]
      have hRz : (xR j i k).size = (sm K C (W j) (cs (std.nat (xc j))) n).size - (hs K C (W j) (cs (std.nat (xc j))) n k).size := by rw [hRk, xrest_size, hSS, rep_size _ _ _ (by rw [← hSS] at hy4 ⊢; exact hy4), hTT]
      have e2 : std.sub (xR j i k) 0 (std.of (std.ssize (xL j k (xG (cs (std.nat (xc j))) n k)))) = W (j + 1) (xG (cs (std.nat (xc j))) n k) := by
        rw [hz1, hRk, hSS, hTT, hgx]
        rw [hSS] at hA
        exact place_gets K C (W j) _ n hkl' _ _ (by rw [← hSS] at hy4 ⊢; exact hy4) _ hA
      have e3 : std.sub (xR j i k) (std.of (std.ssize (xL j k (xG (cs (std.nat (xc j))) n k)))) (std.of (std.ssize (xR j i k))) = xR j i (k + 1) := by
        rw [hz1, hRk, hRk (k + 1), hSS, hTT, hTT1]
        exact place_next K C (W j) _ n hkl' _ _ (by rw [← hSS] at hy4 ⊢; exact hy4)
      have hinc : std.inc (std.of (std.ssize (xL j k (xG (cs (std.nat (xc j))) n k)))) (std.of (std.ssize (xR j i k))) := by
        rw [hz1, s_of, s_ssz, hRz]; simp only [s_inc]; omega
      have hinb : std.inb (xc (xG (cs (std.nat (xc j))) n k)) n := by rw [hxck (xG (cs (std.nat (xc j))) n k)]; simp only [s_inb, s_castI]; omega
      simp only [hkk, hG]
      refine ⟨⟨rfl, by rw [hxck k]; simp only [s_inb, s_castI]; omega⟩, ⟨rfl, by simp only [s_le, s_nadd]; omega⟩, ⟨rfl, hinb⟩, ⟨rfl, by simp only [s_le, s_nadd]; omega⟩, ⟨hinc, ⟨rfl, hinb⟩, trivial⟩, rfl, by simp only [s_le, s_nadd]; omega, hinc, ⟨k + 1, by omega⟩, ⟨congrArg (fun x => I x) e1, rfl, rfl, congrArg (fun x => St x) e3, rfl, rfl, trivial⟩, ⟨trivial, ⟨rfl, rfl, rfl, rfl, fun q _ => ?_⟩, trivial, ⟨rfl, rfl⟩, ⟨rfl, rfl⟩, trivial, ⟨rfl, rfl, rfl, rfl, fun j _ => rfl⟩, ⟨rfl, rfl⟩, trivial, trivial, ⟨rfl, rfl⟩, ⟨rfl, rfl⟩, ⟨rfl, rfl⟩, trivial, trivial, trivial⟩, by simp only; omega⟩
      refine updR_ev K C U (xL j k) (xL j (k + 1)) _ _ (fun q => ?_) q
      show xL j (k + 1) q = if q = xG (cs (std.nat (xc j))) n k then std.sub (xR j i k) 0 (std.of (std.ssize (xL j k (xG (cs (std.nat (xc j))) n k)))) else xL j k q
      rw [e2, hxL, hW, hxG, hnj]
      refine (lb_succ _ _ _ _ _).trans ?_
      by_cases hq : q = hg K C (cs j) n k
      · rw [if_pos hq, if_pos hq, hq]
      · rw [if_neg hq, if_neg hq]
    · skip
      obtain ⟨rfl, rfl, rfl, rfl, rfl, rfl, rfl, rfl, rfl, rfl, rfl, rfl, rfl, rfl, rfl, rfl, rfl, rfl, rfl, rfl, rfl, rfl, rfl, rfl, rfl, rfl⟩ := leaf_eq hO
      clear hO
      have hkN : k = hn K C (cs (std.nat (xc j))) n := by
        have h1' : std.cmp .lss (xc k) (std.of (xN (cs (std.nat (xc j))) n)) = false := h1
        rw [hxck k] at h1'
        have : ¬ k < xN (cs (std.nat (xc j))) n := by simpa [s_lss, s_of, s_castI] using h1'
        rw [hxN] at this hk
        omega
      have e1 : std.ar .add .i64 (xc j) 1 = xc (j + 1) := by rw [hxck j, hxck (j + 1), s_castI, s_castI, s_add (by omega) (by omega)]; omega
      refine ⟨⟨j + 1, by omega⟩, ⟨congrArg (fun x => I x) e1, rfl, rfl, rfl, trivial⟩, ⟨trivial, ⟨rfl, rfl, rfl, rfl, fun q hq => ?_⟩, trivial⟩, by simp only; omega⟩
      have e : xL j k q = W (j + 1) q := by
        have e4 : xL j k q = lb (hg K C (cs (std.nat (xc j))) n) (W (j + 1)) (W j) k q := by rw [hxL, hW, hnj]
        rw [e4, hkN, hA]
        exact lb_all K C _ n (fun p => ovl (W j p) _ _ _) (W j) q hq
      show evC K C U (xL j k) q = evC K C U (W (j + 1)) q
      simp only [evC, e]
    · exfalso
      obtain ⟨rfl, rfl, rfl, rfl, rfl, rfl, rfl, rfl, rfl, rfl, rfl, rfl, rfl, rfl, rfl, rfl, rfl, rfl, rfl, rfl, rfl, rfl, rfl, rfl, rfl, rfl⟩ := leaf_eq hO
      clear hO
      have h : std.not (std.cmp .leq (std.ar .add .i64 (xc i) 1) (ns (std.nat (xc j)))) = false := hlq
      rw [hxck i, s_castI, s_add (by omega) (by omega)] at h
      have h2 : ((i : Int) + 1 ≤ (ns (std.nat (xc j)))) := by simpa [s_not, s_leq, s_castI] using h
      have h3 : castI i = (ns (std.nat (xc j))) := hy1
      rw [s_castI] at h3
      omega
  · skip
    obtain ⟨rfl, rfl, rfl, rfl, rfl, rfl, rfl, rfl, rfl, rfl, rfl, rfl, rfl, rfl, rfl, rfl, rfl, rfl, rfl, rfl, rfl, rfl, rfl, rfl, rfl, rfl⟩ := leaf_eq hO
    clear hO
    have hl : ¬ (castI i + 1 ≤ (ns (std.nat (xc j)))) := by
      have h : std.not (std.cmp .leq (std.ar .add .i64 (xc i) 1) (ns (std.nat (xc j)))) = true := hlq
      rw [hxck i, s_castI, s_add (by omega) (by omega)] at h
      simpa [s_not, s_leq, s_castI] using h
    have hw := hno he hcn hl
    have e1 : std.ar .add .i64 (xc j) 1 = xc (j + 1) := by rw [hxck j, hxck (j + 1), s_castI, s_castI, s_add (by omega) (by omega)]; omega
    refine ⟨⟨j + 1, by omega⟩, ⟨congrArg (fun x => I x) e1, rfl, rfl, rfl, trivial⟩, ⟨trivial, ⟨rfl, rfl, rfl, rfl, nxt _ hw.symm⟩, trivial⟩, by simp only; omega⟩
  · skip
    obtain ⟨rfl, rfl, rfl, rfl, rfl, rfl, rfl, rfl, rfl, rfl, rfl, rfl, rfl, rfl, rfl, rfl, rfl, rfl, rfl, rfl, rfl, rfl, rfl, rfl, rfl, rfl⟩ := leaf_eq hO
    clear hO
    have hl : (castI i + 1 ≤ (ns (std.nat (xc j)))) := by
      have h : std.not (std.cmp .leq (std.ar .add .i64 (xc i) 1) (ns (std.nat (xc j)))) = false := hlq
      rw [hxck i, s_castI, s_add (by omega) (by omega)] at h
      simpa [s_not, s_leq, s_castI] using h
    have hil := hlt he
    have hp := pos_succ _ hil
    have hf := fb_size _ hil
    have hp2 := (rst_eq _ (i + 1) hil).1
    refine ⟨⟨i + 1, by rw [hxM]; exact hil, .inr hl⟩, ⟨congrArg (fun x => I x) ?_, rfl, rfl, trivial⟩, ⟨trivial, ⟨rfl, rfl, rfl, rfl, fun j _ => rfl⟩, trivial, ⟨rfl, rfl⟩, ⟨rfl, rfl⟩, trivial, ⟨rfl, rfl, rfl, rfl, fun j _ => rfl⟩, ⟨rfl, rfl⟩, trivial, trivial, ⟨rfl, rfl⟩, ⟨rfl, rfl⟩, ⟨congrArg (fun x => [I x]) ?_, rfl⟩, trivial⟩, ?_⟩
    · show std.ar .add .i64 (xc (ps _ i)) (xs (std.sub _ (xc (ps _ i)) (std.of (std.ssize _)))) = xc (ps _ (i + 1))
      rw [hsub, hxs, hps, hxck (pos _ i), hxck (pos _ (i + 1))]
      show std.ar .add .i64 ((pos _ i : Nat) : Int) (4 + ln (rst _ i)) = ((pos _ (i + 1) : Nat) : Int)
      rw [s_add (by omega) (by omega)]
      omega
    · show std.ar .add .i64 (xc i) 1 = xc (i + 1)
      rw [hxck i, hxck (i + 1), s_castI, s_castI, s_add (by omega) (by omega)]; omega
    · show xM _ - (i + 1) < xM _ - i
      rw [hxM]; omega
  · exfalso
    obtain ⟨rfl, rfl, rfl, rfl, rfl, rfl, rfl, rfl, rfl, rfl, rfl, rfl, rfl, rfl, rfl, rfl, rfl, rfl, rfl, rfl, rfl, rfl, rfl, rfl, rfl, rfl⟩ := leaf_eq hO
    clear hO
    simp [s_neq] at hx
  · exfalso
    obtain ⟨rfl, rfl, rfl, rfl, rfl, rfl, rfl, rfl, rfl, rfl, rfl, rfl, rfl, rfl, rfl, rfl, rfl, rfl, rfl, rfl, rfl, rfl, rfl, rfl, rfl, rfl⟩ := leaf_eq hO
    clear hO
    simp only [s_neq, d_false] at hx
    exact hx he
  · skip
    obtain ⟨rfl, rfl, rfl, rfl, rfl, rfl, rfl, rfl, rfl, rfl, rfl, rfl, rfl, rfl, rfl, rfl, rfl, rfl, rfl, rfl, rfl, rfl, rfl, rfl, rfl, rfl⟩ := leaf_eq hO
    clear hO
    have hw := hend he
    have e1 : std.ar .add .i64 (xc j) 1 = xc (j + 1) := by rw [hxck j, hxck (j + 1), s_castI, s_castI, s_add (by omega) (by omega)]; omega
    refine ⟨⟨j + 1, by omega⟩, ⟨congrArg (fun x => I x) e1, rfl, rfl, rfl, trivial⟩, ⟨trivial, ⟨rfl, rfl, rfl, rfl, nxt _ hw.symm⟩, trivial⟩, by simp only; omega⟩
theorem vc26 (K C U : Nat → Int) (B : Nat → ByteArray) (n : Nat) (hn0 : n ≤ 150) (hB : ∀ i, i < n → (B i).size ≤ 20000) (cs ns : Nat → Int) (ys : FB) (m : Nat) (hm : m ≤ 1000) (hy : ∀ j, j < m → (ys j).size ≤ 20000) :
    runF std tab (Γk kn asks) (ΔP std ByteArray.size err ln b0 b1 wn sp bdy) 7 26 [.rs 4 n (evC K C U B), .rs 3 m (swC cs ns ys)] [] (fin std (IsEv K C U n (swps K C n cs ns ys B m))) :=
  vc26g K C U B n hn0 hB cs ns ys m hm hy _ ⟨rfl, _, rfl, fun j _ => rfl⟩
end Go.Sx.Sw
