/- Swap: the second law's function. -/
import Derived.Test.YtijnahgehahokaaSwLaw
import Derived.Test.YtijnahgehahokaaSwBack
import Derived.Test.YtijnahgehahokaaSxArg
set_option linter.unusedVariables false
set_option linter.unusedSimpArgs false
namespace Go.Sx.Sw
open Go.Sx Go.Proofs Go.Sx.Bn
set_option maxRecDepth 100000
set_option maxHeartbeats 4000000
/-- The program's swaps, of lists that are read or of a row of one's own. -/
def sp26b (sw : SW) : List SV → Heap → (SV → Heap → Prop) → Prop := fun args H κ => match args with
  | [.rs 4 n g1, .o r ver] =>
    match H[r]? with
    | some (.row 66 3 m g2 ver') => ver = ver' ∧ ∃ K C U B cs ns ys, (∀ j, j < n → g1 j = evC K C U B j) ∧ (∀ j, j < m → g2 j = swC cs ns ys j) ∧ n ≤ 150 ∧ (∀ i, i < n → (B i).size ≤ 20000) ∧ m ≤ 1000 ∧ (∀ i, i < m → (ys i).size ≤ 20000) ∧ κ (.rs 4 n (evC K C U (sw K C n cs ns ys B m))) H
    | _ => False
  | _ => (sp26 sw).con args H κ
theorem sp26b_ok : CallOk Try.prog fun g args H κ => g = 26 ∧ sp26b swps args H κ := by
  have h := ownArg_ok (f := 26) (m := fun args κ => ∃ K C U B n cs ns ys m, args = [.rs 4 n (evC K C U B), .rs 3 m (swC cs ns ys)] ∧ n ≤ 150 ∧ (∀ i, i < n → (B i).size ≤ 20000) ∧ m ≤ 1000 ∧ (∀ i, i < m → (ys i).size ≤ 20000) ∧ κ 62 4 n (evC K C U (swps K C n cs ns ys B m)))
    (runF_ok tab_ok Γk_ok ΔP_ok 7) (fun args κ ⟨K, C, U, B, n, cs, ns, ys, m, ha, hn0, hB, hm, hy, hκ⟩ => by
      subst ha
      exact ⟨rfl, vc26g K C U B n hn0 hB cs ns ys m hm hy _ ⟨rfl, _, fun _ _ => rfl, hκ⟩⟩)
  rintro g args H κ ⟨rfl, hh⟩
  unfold sp26b at hh
  split at hh
  · rename_i n g1 r ver
    split at hh
    · rename_i m g2 ver' hr
      obtain ⟨rfl, K, C, U, B, cs, ns, ys, h1, h2, hn0, hB, hm, hy, hκ⟩ := hh
      refine h 26 _ H κ ⟨rfl, _, .rs 4 n (evC K C U B), r, ver, 66, 3, m, g2, swC cs ns ys, rfl, fun E u hu => rel_rs_congr h1 hu, hr, h2, fun j _ x hx => ?_, K, C, U, B, n, cs, ns, ys, m, rfl, hn0, hB, hm, hy, fun j _ x hx => ?_, hκ⟩
      · simp only [swC, List.mem_cons, List.mem_nil_iff, or_false] at hx
        rcases hx with rfl | rfl | rfl <;> exact ⟨_, rfl⟩
      · simp only [evC, List.mem_cons, List.mem_nil_iff, or_false] at hx
        rcases hx with rfl | rfl | rfl | rfl <;> exact ⟨_, rfl⟩
    · exact hh.elim
  · exact sp26_ok 26 _ H κ ⟨rfl, hh⟩
def sp25 : Spec := fun args κ => ∃ K C U B n g1 g2, args = [.rs 4 n g1, .rs 4 n g2] ∧ (∀ j, j < n → g1 j = evC K C U B j) ∧ (∀ j, j < n → g2 j = evC K C U B j) ∧ n ≤ 140737488355328 ∧ κ (Bo true)
theorem sp25_ok : CallOk Try.prog fun g args H κ => g = 25 ∧ sp25.con args H κ := by
  have h2 := contract_args (ΔL_ok.ok 25 _ rfl)
  rintro g args H κ ⟨rfl, K, C, U, B, n, g1, g2, rfl, hg1, hg2, hn0, hκ⟩
  refine h2 25 _ H κ ⟨rfl, _, ?_, K, C, U, B, n, rfl, hn0, hκ⟩
  intro E vals hr
  simp only [relL] at hr ⊢
  obtain ⟨v1, r1, rfl, e1, v2, r2, rfl, e2, rfl⟩ := hr
  exact ⟨v1, _, rfl, rel_rs_congr hg1 e1, v2, _, rfl, rel_rs_congr hg2 e2, rfl⟩
def ΔK (mu : Nat → FB → Nat → FB → Bool) (sw : SW) (sm : (Nat → Int) → (Nat → Int) → FB → Int → Nat → ByteArray) (nf : ByteArray → Nat) (k0 k1 : ByteArray → Nat → Int) (k2 : ByteArray → Nat → ByteArray) : Contracts := fun f => match f with
  | 25 => some sp25.con
  | 26 => some (sp26b sw)
  | 20 => ΔL mu sw sm nf k0 k1 k2 20
  | 21 => ΔL mu sw sm nf k0 k1 k2 21
  | 23 => ΔL mu sw sm nf k0 k1 k2 23
  | 27 => ΔL mu sw sm nf k0 k1 k2 27
  | _ => none
theorem ΔK_ok : ContractsOk Try.prog (ΔK much swps sm nf fk ff fb) := by
  constructor
  intro f m hm
  unfold ΔK at hm
  split at hm
  · cases hm; exact sp25_ok
  · cases hm; exact sp26b_ok
  · exact ΔL_ok.ok _ _ hm
  · exact ΔL_ok.ok _ _ hm
  · exact ΔL_ok.ok _ _ hm
  · exact ΔL_ok.ok _ _ hm
  · cases hm
/-! ### The swaps back -/
abbrev Bk := Nat × Nat × ByteArray
def bkC (F : Nat → Nat) (Y : Nat → Nat → ByteArray) : Nat → List Bk
  | 0 => []
  | c + 1 => bkC F Y c ++ (List.range (F c)).map fun j => (c, j, Y c j)
def bkl (F : Nat → Nat) (Y : Nat → Nat → ByteArray) (c j : Nat) : List Bk := bkC F Y c ++ (List.range j).map fun j => (c, j, Y c j)
theorem bkl_succ (F : Nat → Nat) (Y : Nat → Nat → ByteArray) (c j : Nat) : bkl F Y c (j + 1) = bkl F Y c j ++ [(c, j, Y c j)] := by
  unfold bkl; rw [List.range_succ, List.map_append, List.append_assoc]; rfl
theorem bkl_next (F : Nat → Nat) (Y : Nat → Nat → ByteArray) (c : Nat) : bkl F Y (c + 1) 0 = bkl F Y c (F c) := by
  unfold bkl; simp [bkC]
theorem bkC_len (F : Nat → Nat) (Y : Nat → Nat → ByteArray) (h : ∀ c, F c ≤ 3000000) : ∀ c, (bkC F Y c).length ≤ c * 3000000
  | 0 => by simp [bkC]
  | c + 1 => by have := bkC_len F Y h c; have := h c; simp [bkC]; omega
theorem bkC_mem (F : Nat → Nat) (Y : Nat → Nat → ByteArray) : ∀ c x, x ∈ bkC F Y c → x.1 < c ∧ x.2.1 < F x.1 ∧ x.2.2 = Y x.1 x.2.1
  | 0, x, h => by simp [bkC] at h
  | c + 1, x, h => by
    rw [bkC] at h
    rcases List.mem_append.1 h with h | h
    · have := bkC_mem F Y c x h; exact ⟨by omega, this.2⟩
    · simp only [List.mem_map, List.mem_range] at h
      obtain ⟨j, hj, rfl⟩ := h
      exact ⟨by simp, hj, rfl⟩
theorem bkC_all (F : Nat → Nat) (Y : Nat → Nat → ByteArray) : ∀ c c' j, c' < c → j < F c' → (c', j, Y c' j) ∈ bkC F Y c
  | c + 1, c', j, h, hj => by
    rw [bkC, List.mem_append]
    by_cases hc : c' = c
    · subst hc; right; simp only [List.mem_map, List.mem_range]; exact ⟨j, hj, rfl⟩
    · left; exact bkC_all F Y c c' j (by omega) hj
def bc (L : List Bk) (k : Nat) : Int := ((L.getD k (0, 0, ⟨#[]⟩)).1 : Int)
def bj (L : List Bk) (k : Nat) : Int := ((L.getD k (0, 0, ⟨#[]⟩)).2.1 : Int)
def by' (L : List Bk) (k : Nat) : ByteArray := (L.getD k (0, 0, ⟨#[]⟩)).2.2
def bq (L : List Bk) : Nat → List SV := swC (bc L) (bj L) (by' L)
theorem bq_app (L : List Bk) (x : Bk) : ∀ k, k < L.length + 1 → app L.length (bq L) (chunk [I (x.1 : Int), I (x.2.1 : Int), St x.2.2] 3) k = bq (L ++ [x]) k := by
  refine app_chunk (sz := 3) rfl (fun j hj => ?_) ?_
  · simp only [bq, swC, bc, bj, by', List.getD_eq_getElem?_getD, List.getElem?_append_left hj]
  · simp [bq, swC, bc, bj, by']
theorem bk_mem (F : Nat → Nat) (Y : Nat → Nat → ByteArray) (c k : Nat) (hk : k < (bkl F Y c 0).length) : (bkl F Y c 0).getD k (0, 0, ⟨#[]⟩) ∈ bkC F Y c := by
  have e : bkl F Y c 0 = bkC F Y c := by simp [bkl]
  rw [e] at hk ⊢
  rw [List.getD_eq_getElem?_getD, List.getElem?_eq_getElem hk]
  exact List.getElem_mem hk
theorem bk_small (K C : Nat → Int) (n : Nat) (B : FB) (c k : Nat) (hk : k < (bkl (fun c => nf (sm K C B (castI c) n)) (fun c j => fb (sm K C B (castI c) n) j) c 0).length) : (by' (bkl (fun c => nf (sm K C B (castI c) n)) (fun c j => fb (sm K C B (castI c) n) j) c 0) k).size ≤ 20000 := by
  have hm := bkC_mem _ _ _ _ (bk_mem _ _ c k hk)
  unfold by'
  rw [hm.2.2]
  have := (fb_size _ hm.2.1).2
  omega
theorem back_eq {K C : Nat → Int} {n : Nat} {B B1 : FB} (h : Inv K C n B B1) (L : List Bk) (hL : L = bkl (fun c => nf (sm K C B (castI c) n)) (fun c j => fb (sm K C B (castI c) n) j) 16 0) : ∀ i, i < n → swps K C n (bc L) (bj L) (by' L) B1 L.length i = B i := by
  subst hL
  have hm := fun k hk => bkC_mem _ _ _ _ (bk_mem (fun c => nf (sm K C B (castI c) n)) (fun c j => fb (sm K C B (castI c) n) j) 16 k hk)
  have hall := back_all (K := K) (C := C) (n := n) (B := B) (bc (bkl (fun c => nf (sm K C B (castI c) n)) (fun c j => fb (sm K C B (castI c) n) j) 16 0)) (fun k => ((bkl (fun c => nf (sm K C B (castI c) n)) (fun c j => fb (sm K C B (castI c) n) j) 16 0).getD k (0, 0, ⟨#[]⟩)).2.1)
    (by' (bkl (fun c => nf (sm K C B (castI c) n)) (fun c j => fb (sm K C B (castI c) n) j) 16 0)) _ (fun k hk => ⟨(hm k hk).2.1, (hm k hk).2.2⟩) h _ (Nat.le_refl _)
  refine back_home (inv_swps K C n _ _ _ h _) fun c c0 c1 j hj => ?_
  obtain ⟨c', rfl⟩ := Int.eq_ofNat_of_zero_le c0
  have hmem := bkC_all (fun c => nf (sm K C B (castI c) n)) (fun c j => fb (sm K C B (castI c) n) j) 16 c' j (by omega) hj
  obtain ⟨k, hk, hke⟩ := List.getElem_of_mem hmem
  have e : bkl (fun c => nf (sm K C B (castI c) n)) (fun c j => fb (sm K C B (castI c) n) j) 16 0 = bkC (fun c => nf (sm K C B (castI c) n)) (fun c j => fb (sm K C B (castI c) n) j) 16 := by simp [bkl]
  have := hall k (by rw [e]; exact hk)
  have hd : (bkl (fun c => nf (sm K C B (castI c) n)) (fun c j => fb (sm K C B (castI c) n) j) 16 0).getD k (0, 0, ⟨#[]⟩) = (c', j, fb (sm K C B (castI c') n) j) := by
    rw [e, List.getD_eq_getElem?_getD, List.getElem?_eq_getElem hk, hke]; rfl
  simp only [bc, hd] at this
  exact this
theorem asks_inl (k : Int) : (if (if (if decide (k ≥ 2) = true then decide (k ≤ 4) else false) = true then true else decide (k = 6)) = true then true else decide (k = 7)) = asks k := by
  unfold asks
  by_cases h6 : k = 6
  · subst h6; rfl
  · by_cases h7 : k = 7
    · subst h7; rfl
    · by_cases h2 : k ≥ 2
      · by_cases h4 : k ≤ 4
        · rcases (by omega : k = 2 ∨ k = 3 ∨ k = 4) with rfl | rfl | rfl <;> rfl
        · have e : (k == 2) = false ∧ (k == 3) = false ∧ (k == 4) = false ∧ (k == 6) = false ∧ (k == 7) = false := by simp; omega
          simp [h2, h4, h6, h7, e]
      · have e : (k == 2) = false ∧ (k == 3) = false ∧ (k == 4) = false ∧ (k == 6) = false ∧ (k == 7) = false := by simp; omega
        simp [h2, h6, h7, e]
theorem vc6 (K C U : Nat → Int) (B : FB) (n : Nat) (hn0 : n ≤ 140737488355328) (hB : ∀ i, i < n → (B i).size ≤ 140737488355328) (cs ns : Nat → Int) (ys : FB) (m : Nat) (hm : m ≤ 140737488355328) (hy : ∀ i, i < m → (ys i).size ≤ 140737488355328) :
    runF std tab noΓ (ΔK much swps sm nf fk ff fb) 2 6 [.rs 4 n (evC K C U B), .rs 3 m (swC cs ns ys)] [] (fin std fun r => r = Bo true) := by
  obtain ⟨L, hL⟩ : ∃ f : Nat → Nat → List Bk, f = bkl (fun c => nf (sm K C B (castI c) n)) (fun c j => fb (sm K C B (castI c) n) j) := ⟨_, rfl⟩
  obtain ⟨bn, hbn⟩ : ∃ f : Nat → Nat → Nat, f = fun c j => (L c j).length := ⟨_, rfl⟩
  obtain ⟨bg, hbg⟩ : ∃ f : Nat → Nat → Nat → List SV, f = fun c j => bq (L c j) := ⟨_, rfl⟩
  obtain ⟨O, hO⟩ : ∃ O, O = std := ⟨_, rfl⟩
  obtain ⟨xc, hxc⟩ : ∃ x, x = castI := ⟨_, rfl⟩
  obtain ⟨xu, hxu⟩ : ∃ x, x = much := ⟨_, rfl⟩
  obtain ⟨xw, hxw⟩ : ∃ x, x = swps := ⟨_, rfl⟩
  obtain ⟨T, hT⟩ : ∃ x, x = sm := ⟨_, rfl⟩
  obtain ⟨xM, hxM⟩ : ∃ x, x = nf := ⟨_, rfl⟩
  obtain ⟨x0, hx0⟩ : ∃ x, x = fk := ⟨_, rfl⟩
  obtain ⟨x1, hx1⟩ : ∃ x, x = ff := ⟨_, rfl⟩
  obtain ⟨xb, hxb⟩ : ∃ x, x = fb := ⟨_, rfl⟩
  rw [← hO]
  try rw [← hxc]
  try rw [← hxu]
  try rw [← hxw]
  try rw [← hT]
  try rw [← hxM]
  try rw [← hx0]
  try rw [← hx1]
  try rw [← hxb]
  obtain ⟨ar, cmp, neg, cv, mx, mn, nt, ite, beq, scmp, cat, sub, byte, ssz, of, nat, nadd, nsub, sel, inb, inc, le, ne0, nneg, eqn, room⟩ := O
  cbv
  have hxck : ∀ k, xc k = castI k := fun k => by rw [hxc]
  refine ⟨K, C, U, B, n, cs, ns, ys, m, rfl, hn0, hB, hm, hy, ?_⟩
  cbv
  refine ⟨fun _ => trivial, fun hmu => ⟨cs, ns, ys, m, rfl, ?_, ?_⟩⟩
  · have := much_no (n := n) (B := B) (m := m) (ys := ys) (by rw [← hxu]; exact hmu)
    omega
  have hmu' := much_no (n := n) (B := B) (m := m) (ys := ys) (by rw [← hxu]; exact hmu)
  have g1 := hmu'.1
  have g2 := hmu'.2.1
  have g3 := hmu'.2.2.1
  have g4 := hmu'.2.2.2
  clear hmu'
  cbv
  refine ⟨K, C, U, B, n, cs, ns, ys, m, _, _, rfl, fun _ _ => rfl, fun _ _ => rfl, g1, g2, by omega, g4, ?_⟩
  cbv
  refine ⟨fun h => ?_, fun h => ?_⟩
  · skip
    obtain ⟨rfl, rfl, rfl, rfl, rfl, rfl, rfl, rfl, rfl, rfl, rfl, rfl, rfl, rfl, rfl, rfl, rfl, rfl, rfl, rfl, rfl, rfl, rfl, rfl, rfl, rfl⟩ := leaf_eq hO
    clear hO
    simp [s_neq] at h
  refine ⟨{i : Nat // i ≤ n}, fun i => [(6, I (xc i.1)), (5, .rs 4 n (evC K C U (xw K C n cs ns ys B m))), (4, .v (.bool false)), (0, .rs 4 n (evC K C U B)), (1, .rs 3 m (swC cs ns ys))], fun _ => [], fun i => n - i.1, ⟨0, by omega⟩, fun i => by cbv, ?_, by cbv, fun i => ?_⟩
  · subst hxc; exact ⟨rfl, rfl, rfl, rfl, rfl, trivial⟩
  obtain ⟨i, hi⟩ := i
  cbv
  have hsz : ∀ k, (xw K C n cs ns ys B m k).size = (B k).size := fun k => by rw [hxw]; exact swps_size K C n cs ns ys B m k
  refine ⟨fun h1 => ?_, fun h1 => ?_⟩
  · skip
    obtain ⟨rfl, rfl, rfl, rfl, rfl, rfl, rfl, rfl, rfl, rfl, rfl, rfl, rfl, rfl, rfl, rfl, rfl, rfl, rfl, rfl, rfl, rfl, rfl, rfl, rfl, rfl⟩ := leaf_eq hO
    clear hO
    have hin : i < n := by rw [hxc] at h1; simpa [s_lss, s_castI, s_of] using h1
    have hb : std.inb (xc i) n := by rw [hxc]; simp only [s_inb, s_castI]; omega
    have e1 : std.ar .add .i64 (xc i) 1 = xc (i + 1) := by rw [hxc]; simp (disch := omega) only [s_castI, s_add]; omega
    refine ⟨⟨hb, hb, fun _ => ⟨hb, hb, trivial⟩, fun _ => ⟨hb, hb, trivial⟩, fun _ => ⟨hb, hb, trivial⟩, trivial⟩, fun h2 => ?_, fun _ => ⟨⟨i + 1, by omega⟩, ⟨congrArg (fun x => I x) e1, rfl, rfl, rfl, rfl, trivial⟩, trivial, by simp only; omega⟩⟩
    simp [s_neq, s_ite, s_of, s_ssz, hsz] at h2
  clear h1
  have hNs : ∀ c, xM (T K C B (xc c) n) ≤ 3000000 := fun c => by
    rw [hxM, hT]
    have := nf_le (sm K C B (xc c) n)
    have := sm_size (K := K) (C := C) (c := xc c) g2 n (Nat.le_refl _)
    omega
  have hlb : ∀ c j, c ≤ 16 → j ≤ 3000000 → bn c j ≤ 60000000 := fun c j hc hj => by
    rw [hbn, hL]
    have := bkC_len (fun c => nf (sm K C B (castI c) n)) (fun c j => fb (sm K C B (castI c) n) j) (fun c => by have := hNs c; rw [hxM, hT, hxck] at this; exact this) c
    simp only [bkl, List.length_append, List.length_map, List.length_range]
    omega
  refine ⟨{c : Nat // c ≤ 16}, fun c => [(8, I (xc c.1)), (7, .o 0 (bn c.1 0)), (5, .rs 4 n (evC K C U (xw K C n cs ns ys B m))), (4, .v (.bool false)), (0, .rs 4 n (evC K C U B)), (1, .rs 3 m (swC cs ns ys))], fun c => [.row 66 3 (bn c.1 0) (bg c.1 0) (bn c.1 0)], fun c => 16 - c.1, ⟨0, by omega⟩, fun c => by cbv, ?_, ?_, fun c => ?_⟩
  · subst hxc hbn hL; exact ⟨rfl, rfl, rfl, rfl, rfl, rfl, trivial⟩
  · subst hbn hL; exact ⟨⟨rfl, rfl, rfl, rfl, fun j hj => absurd hj (Nat.not_lt_zero j)⟩, trivial⟩
  obtain ⟨c, hc⟩ := c
  cbv
  refine ⟨fun h1 => ?_, fun h1 => ?_⟩
  · have hc16 := h1
    refine ⟨K, C, U, B, n, xc c, rfl, g1, g2, ?_⟩
    cbv
    refine ⟨K, C, U, xw K C n cs ns ys B m, n, xc c, rfl, g1, fun i hi => ?_, ?_⟩
    · rw [hsz]; exact g2 i hi
    cbv
    have hfr := (inv_swps K C n cs ns ys (Inv.refl K C n B) m).sim (xc c)
    rw [← hxw, ← hT] at hfr
    have hf := hfr.frames
    rw [← hxM, ← hx0, ← hx1, ← hxb] at hf
    refine ⟨fun h => ?_, fun _ => ?_⟩
    · skip
      obtain ⟨rfl, rfl, rfl, rfl, rfl, rfl, rfl, rfl, rfl, rfl, rfl, rfl, rfl, rfl, rfl, rfl, rfl, rfl, rfl, rfl, rfl, rfl, rfl, rfl, rfl, rfl⟩ := leaf_eq hO
      clear hO
      simp [s_neq, s_of, hf.1] at h
    refine ⟨{j : Nat // j ≤ xM (T K C B (xc c) n)}, fun j => [(11, I (xc j.1)), (10, .rs 3 (xM (T K C (xw K C n cs ns ys B m) (xc c) n)) fun j => [I (x0 (T K C (xw K C n cs ns ys B m) (xc c) n) j), I (x1 (T K C (xw K C n cs ns ys B m) (xc c) n) j), St (xb (T K C (xw K C n cs ns ys B m) (xc c) n) j)]), (9, .rs 3 (xM (T K C B (xc c) n)) fun j => [I (x0 (T K C B (xc c) n) j), I (x1 (T K C B (xc c) n) j), St (xb (T K C B (xc c) n) j)]), (8, I (xc c)), (7, .o 0 (bn c j.1)), (5, .rs 4 n (evC K C U (xw K C n cs ns ys B m))), (4, .v (.bool false)), (0, .rs 4 n (evC K C U B)), (1, .rs 3 m (swC cs ns ys))], fun j => [.row 66 3 (bn c j.1) (bg c j.1) (bn c j.1)], fun j => xM (T K C B (xc c) n) - j.1, ⟨0, by omega⟩, fun j => by cbv, ?_, ?_, fun j => ?_⟩
    · subst hxc; exact ⟨rfl, rfl, rfl, rfl, rfl, rfl, rfl, rfl, rfl, trivial⟩
    · exact ⟨⟨rfl, rfl, rfl, rfl, fun j _ => rfl⟩, trivial⟩
    obtain ⟨j, hj⟩ := j
    cbv
    refine ⟨fun h1 => ?_, fun h1 => ?_⟩
    · skip
      obtain ⟨rfl, rfl, rfl, rfl, rfl, rfl, rfl, rfl, rfl, rfl, rfl, rfl, rfl, rfl, rfl, rfl, rfl, rfl, rfl, rfl, rfl, rfl, rfl, rfl, rfl, rfl⟩ := leaf_eq hO
      clear hO
      have hjl : j < xM (T K C B (xc c) n) := by
        have h1' : std.cmp .lss (xc j) (std.of (xM (T K C B (xc c) n))) = true := h1
        rw [hxck j] at h1'; simpa [s_lss, s_of, s_castI] using h1'
      have hnj : std.nat (xc j) = j := by rw [hxck j]; simp [s_nat, s_castI]
      have hb1 : std.inb (xc j) (xM (T K C B (xc c) n)) := by rw [hxck j]; simp only [s_inb, s_castI]; omega
      have hb2 : std.inb (xc j) (xM (T K C (xw K C n cs ns ys B m) (xc c) n)) := by rw [hf.1]; exact hb1
      obtain ⟨_, hff⟩ := hf.2 j (by omega)
      obtain ⟨e0, e1, e2, e3⟩ := hff hjl
      have e4 : std.ar .add .i64 (xc j) 1 = xc (j + 1) := by
        have := hNs c
        rw [hxck j, hxck (j + 1)]; simp (disch := omega) only [s_castI, s_add]; omega
      have hlen : bn c (j + 1) = bn c j + 1 := by rw [hbn]; simp only [hL, bkl_succ, List.length_append, List.length_singleton]
      have hrm := hlb c j hc (by have := hNs c; omega)
      refine ⟨⟨hb1, hb2, fun _ => ⟨hb1, hb2, trivial⟩, fun _ => ⟨hb1, hb2, trivial⟩, trivial⟩, fun h2 => ?_, fun _ => ⟨hb1, ⟨fun _ => ⟨hb1, trivial⟩, trivial⟩, ⟨fun _ => ⟨hb1, trivial⟩, trivial⟩, ⟨fun _ => ⟨hb1, trivial⟩, trivial⟩, ⟨fun _ => ⟨hb1, hb2, trivial⟩, trivial⟩, fun h2 => ?_, fun _ => ⟨hb1, rfl, ?_, ⟨j + 1, by omega⟩, ⟨congrArg (fun x => I x) e4, rfl, rfl, rfl, congrArg (SV.o 0) hlen.symm, rfl, rfl, rfl, rfl, trivial⟩, ⟨⟨rfl, rfl, hlen.symm, hlen.symm, fun k hk => ?_⟩, trivial⟩, by simp only; omega⟩⟩⟩
      · simp [s_neq, s_ite, hnj, e0, e1, e2, s_of, s_ssz] at h2
      · exfalso
        simp only [hnj, s_geq, s_leq, s_eql, s_ite, s_not, asks_inl, s_sne] at h2
        cases ha : asks (x0 (T K C B (xc c) n) j) with
        | false => rw [e3 ha] at h2; simp at h2
        | true => simp [ha] at h2
      · simp only [s_room, s_nadd, maxLen]; omega
      · have hbe : bn c j = (L c j).length := by rw [hbn]
        have hk' : k < (L c j).length + 1 := by rw [← hbe]; exact hk
        have hx : St (xb (T K C B (xc c) n) (std.nat (xc j))) = St (fb (sm K C B (castI c) n) j) := by rw [hnj, hxb, hT, hxck]
        show app (bn c j) (bg c j) (chunk [I (xc c), I (xc j), St (xb (T K C B (xc c) n) (std.nat (xc j)))] 3) k = bg c (j + 1) k
        rw [hx, hxck j, hxck c, hbn, hbg]
        have := bq_app (L c j) (c, j, fb (sm K C B (castI c) n) j) k hk'
        have e5 : L c (j + 1) = L c j ++ [(c, j, fb (sm K C B (castI c) n) j)] := by rw [hL, bkl_succ]
        show app (L c j).length (bq (L c j)) _ k = bq (L c (j + 1)) k
        rw [e5]
        exact this
    · skip
      obtain ⟨rfl, rfl, rfl, rfl, rfl, rfl, rfl, rfl, rfl, rfl, rfl, rfl, rfl, rfl, rfl, rfl, rfl, rfl, rfl, rfl, rfl, rfl, rfl, rfl, rfl, rfl⟩ := leaf_eq hO
      clear hO
      have hjl : j = xM (T K C B (xc c) n) := by
        have h1' : std.cmp .lss (xc j) (std.of (xM (T K C B (xc c) n))) = false := h1
        rw [hxck j] at h1'
        have : ¬ j < xM (T K C B (xc c) n) := by simpa [s_lss, s_of, s_castI] using h1'
        omega
      have e4 : std.ar .add .i64 (xc c) 1 = xc (c + 1) := by rw [hxck c, hxck (c + 1)]; simp (disch := omega) only [s_castI, s_add]; omega
      have hLn : L c j = L (c + 1) 0 := by rw [hL, bkl_next, hjl, hxM, hT, hxck]
      have hbn1 : bn c j = bn (c + 1) 0 := by rw [hbn]; simp only [hLn]
      have hc' : c < 16 := by
        have h1' : std.cmp .lss (xc c) 16 = true := hc16
        rw [hxck c] at h1'
        have : ((c : Int) < 16) := by simpa [s_lss, s_castI] using h1'
        omega
      refine ⟨⟨c + 1, by omega⟩, ⟨congrArg (fun x => I x) e4, congrArg (SV.o 0) hbn1, rfl, rfl, rfl, rfl, trivial⟩, ⟨⟨rfl, rfl, hbn1, hbn1, fun k hk => ?_⟩, trivial⟩, by simp only; omega⟩
      show bg c j k = bg (c + 1) 0 k
      rw [hbg]; simp only [hLn]
  · have hc16 : c = 16 := by
      obtain ⟨rfl, rfl, rfl, rfl, rfl, rfl, rfl, rfl, rfl, rfl, rfl, rfl, rfl, rfl, rfl, rfl, rfl, rfl, rfl, rfl, rfl, rfl, rfl, rfl, rfl, rfl⟩ := leaf_eq hO
      clear hO
      have h1' : std.cmp .lss (xc c) 16 = false := h1
      rw [hxck c] at h1'
      have : ¬ ((c : Int) < 16) := by simpa [s_lss, s_castI] using h1'
      omega
    refine ⟨?_, fun h2 => ⟨fun h3 => (by cases h3), fun _ => trivial⟩, fun h2 => ⟨fun h3 => ⟨?_, fun h4 => ?_, fun h4 => ⟨fun h => (by cases h), fun _ => ?_⟩⟩, fun h3 => trivial⟩⟩
    · skip
      obtain ⟨rfl, rfl, rfl, rfl, rfl, rfl, rfl, rfl, rfl, rfl, rfl, rfl, rfl, rfl, rfl, rfl, rfl, rfl, rfl, rfl, rfl, rfl, rfl, rfl, rfl, rfl⟩ := leaf_eq hO
      clear hO
      rfl
    · skip
      obtain ⟨rfl, rfl, rfl, rfl, rfl, rfl, rfl, rfl, rfl, rfl, rfl, rfl, rfl, rfl, rfl, rfl, rfl, rfl, rfl, rfl, rfl, rfl, rfl, rfl, rfl, rfl⟩ := leaf_eq hO
      clear hO
      rfl
    · have hbe : bn c 0 = (L c 0).length := by rw [hbn]
      have h5 : bn c 0 ≤ 200 := by
        obtain ⟨rfl, rfl, rfl, rfl, rfl, rfl, rfl, rfl, rfl, rfl, rfl, rfl, rfl, rfl, rfl, rfl, rfl, rfl, rfl, rfl, rfl, rfl, rfl, rfl, rfl, rfl⟩ := leaf_eq hO
        clear hO
        have h4' : std.cmp .leq (std.of (bn c 0)) 200 = true := h4
        simp only [s_leq, s_of, decide_eq_true_eq] at h4'
        omega
      refine ⟨K, C, U, xw K C n cs ns ys B m, bc (L c 0), bj (L c 0), by' (L c 0), fun _ _ => rfl, fun j _ => by rw [hbg]; rfl, g1, fun i hi => by rw [hsz]; exact g2 i hi, ?_, fun i hi => ?_, ?_⟩
      · show bn c 0 ≤ 1000; omega
      · rw [hL]
        refine bk_small K C n B c i ?_
        have hi' : i < (L c 0).length := by rw [← hbe]; exact hi
        rw [hL] at hi'
        exact hi'
      cbv
      refine ⟨K, C, U, B, n, _, _, rfl, fun i hi => ?_, fun _ _ => rfl, by omega, ?_⟩
      · have e := back_eq (inv_swps K C n cs ns ys (Inv.refl K C n B) m) (L c 0) (by rw [hL, hc16]) i hi
        show evC K C U (xw K C n (bc (L c 0)) (bj (L c 0)) (by' (L c 0)) (xw K C n cs ns ys B m) (bn c 0)) i = evC K C U B i
        rw [← hxw, ← hbe] at e
        simp only [evC, e]
      cbv
      exact ⟨fun _ => trivial, fun h => (by cases h)⟩
    · exfalso
      obtain ⟨rfl, rfl, rfl, rfl, rfl, rfl, rfl, rfl, rfl, rfl, rfl, rfl, rfl, rfl, rfl, rfl, rfl, rfl, rfl, rfl, rfl, rfl, rfl, rfl, rfl, rfl⟩ := leaf_eq hO
      clear hO
      have h4' : std.cmp .leq (std.of (bn c 0)) 200 = false := h4
      have h2' : std.cmp .gtr (std.of (bn c 0)) 200 = false := h2
      simp only [s_leq, s_gtr, s_of, decide_eq_false_iff_not] at h4' h2'
      omega
end Go.Sx.Sw
