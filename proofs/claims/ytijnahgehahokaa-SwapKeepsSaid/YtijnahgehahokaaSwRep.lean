/- Swap: bytes of a stream replaced, told by events. -/
import Derived.Test.YtijnahgehahokaaSwDo
set_option linter.unusedVariables false
set_option linter.unusedSimpArgs false
namespace Go.Sx.Sw
open Go.Sx Go.Proofs Go.Sx.Bn
theorem so_hg (K C : Nat → Int) (B : Nat → ByteArray) (c : Int) : ∀ n k, k < hn K C c n → so K C B c (hg K C c n k) = (hs K C B c n k).size
  | 0, k, h => by simp [hn, hl] at h
  | n + 1, k, h => by
    by_cases hh : k < hn K C c n
    · rw [hg_pre hh, so_hg K C B c n k hh, hs_prefix (fun k' hk' => (hg_pre (K := K) (C := C) (c := c) (n := n) hk').symm) k (by omega)]
    · by_cases hr1 : hr K C c n = true
      · have e1 : hn K C c (n + 1) = hn K C c n + 1 := by simp [hn, hl, hr1]
        have : k = hn K C c n := by omega
        subst this
        have e2 : hg K C c (n + 1) (hn K C c n) = n := by simp [hg, hn, hl, hr1]
        rw [e2, ← hs_prefix (fun k' hk' => (hg_pre (K := K) (C := C) (c := c) (n := n) hk').symm) _ (Nat.le_refl _), hs_all]
        rfl
      · have e1 : hn K C c (n + 1) = hn K C c n := by simp [hn, hl, hr1]
        omega
theorem hs_mono (K C : Nat → Int) (B : Nat → ByteArray) (c : Int) (n : Nat) {k : Nat} : ∀ k', k ≤ k' → (hs K C B c n k).size ≤ (hs K C B c n k').size ∧ ∀ q, q < (hs K C B c n k).size → gb (hs K C B c n k') q = gb (hs K C B c n k) q
  | 0, h => by
    have : k = 0 := by omega
    subst this; exact ⟨Nat.le_refl _, fun _ _ => rfl⟩
  | k' + 1, h => by
    by_cases hk : k = k' + 1
    · subst hk; exact ⟨Nat.le_refl _, fun _ _ => rfl⟩
    · obtain ⟨h1, h2⟩ := hs_mono K C B c n k' (k := k) (by omega)
      refine ⟨by rw [hs, ByteArray.size_append]; omega, fun q hq => ?_⟩
      rw [hs, gb_append_left _ _ _ (by omega), h2 q hq]
/-- Bytes replaced. -/
def rep (S : ByteArray) (a : Nat) (y : ByteArray) : ByteArray := S.extract 0 a ++ y ++ S.extract (a + y.size) S.size
theorem rep_size (S : ByteArray) (a : Nat) (y : ByteArray) (h : a + y.size ≤ S.size) : (rep S a y).size = S.size := by
  unfold rep; simp only [ByteArray.size_append, ByteArray.size_extract]; omega
theorem rep_gb (S : ByteArray) (a : Nat) (y : ByteArray) (h : a + y.size ≤ S.size) (q : Nat) (hq : q < S.size) : gb (rep S a y) q = if a ≤ q ∧ q < a + y.size then gb y (q - a) else gb S q := by
  have s1 : (S.extract 0 a).size = a := by rw [ByteArray.size_extract]; omega
  have s2 : (S.extract 0 a ++ y).size = a + y.size := by rw [ByteArray.size_append, s1]
  unfold rep
  by_cases h1 : q < a + y.size
  · rw [gb_append_left _ _ _ (by omega)]
    by_cases h2 : q < a
    · rw [gb_append_left _ _ _ (by omega), gb_extract _ _ _ _ (by omega), if_neg (by omega), Nat.zero_add]
    · rw [gb_append_right _ _ _ (by omega), s1, if_pos ⟨by omega, h1⟩]
  · rw [gb_append_right _ _ _ (by omega), s2, gb_extract _ _ _ _ (by omega), if_neg (by omega)]
    congr 1
    omega
theorem hs_at (K C : Nat → Int) (B : Nat → ByteArray) (c : Int) (n : Nat) {k : Nat} (hk : k < hn K C c n) : (hs K C B c n k).size + (B (hg K C c n k)).size = (hs K C B c n (k + 1)).size ∧ (hs K C B c n (k + 1)).size ≤ (sm K C B c n).size ∧ ∀ z, z < (B (hg K C c n k)).size → gb (sm K C B c n) ((hs K C B c n k).size + z) = gb (B (hg K C c n k)) z := by
  have h1 : (hs K C B c n k).size + (B (hg K C c n k)).size = (hs K C B c n (k + 1)).size := by rw [hs, ByteArray.size_append]
  obtain ⟨h2, h3⟩ := hs_mono K C B c n (k := k + 1) (hn K C c n) (by omega)
  rw [hs_all] at h2 h3
  refine ⟨h1, h2, fun z hz => ?_⟩
  rw [h3 _ (by omega), hs, gb_append_right _ _ _ (by omega)]
  congr 1
  omega
theorem rep_piece (K C : Nat → Int) (B : Nat → ByteArray) (c : Int) (n : Nat) {k : Nat} (hk : k < hn K C c n) (a : Nat) (y : ByteArray) (ha : a + y.size ≤ (sm K C B c n).size) :
    (rep (sm K C B c n) a y).extract (hs K C B c n k).size ((hs K C B c n k).size + (B (hg K C c n k)).size) = ovl (B (hg K C c n k)) (so K C B c (hg K C c n k)) a y := by
  obtain ⟨h1, h2, h3⟩ := hs_at K C B c n hk
  have hsz := rep_size _ a y ha
  have es : ((rep (sm K C B c n) a y).extract (hs K C B c n k).size ((hs K C B c n k).size + (B (hg K C c n k)).size)).size = (B (hg K C c n k)).size := by
    rw [ByteArray.size_extract, hsz]; omega
  refine gb_ext (by rw [es, ovl_size]) fun z hz => ?_
  rw [es] at hz
  rw [gb_extract _ _ _ _ (by rw [hsz]; omega), rep_gb _ _ _ ha _ (by omega), ovl_gb _ _ _ _ _ hz, so_hg _ _ _ _ _ _ hk, h3 z hz]
/-- The rest of the bytes behind the first events. -/
def xrest (R : ByteArray) (o : Nat) : ByteArray := R.extract o R.size
theorem xrest_take (R : ByteArray) (o e : Nat) (h : o + e ≤ R.size) : (xrest R o).extract 0 e = R.extract o (o + e) := by
  unfold xrest
  rw [ByteArray.extract_extract]
  congr 1; omega
theorem xrest_drop (R : ByteArray) (o e : Nat) (h : o + e ≤ R.size) : (xrest R o).extract e (xrest R o).size = xrest R (o + e) := by
  unfold xrest
  rw [ByteArray.extract_extract, ByteArray.size_extract]
  congr 1; omega
theorem xrest_size (R : ByteArray) (o : Nat) : (xrest R o).size = R.size - o := by unfold xrest; rw [ByteArray.size_extract]; omega
/-- The events behind the first places. -/
def lb (G : Nat → Nat) (A B : FB) (k : Nat) : FB := fun p => if (List.range k).any (fun k' => G k' == p) = true then A p else B p
theorem lb_zero (G : Nat → Nat) (A B : FB) : lb G A B 0 = B := by funext p; simp [lb]
theorem lb_succ (G : Nat → Nat) (A B : FB) (k p : Nat) : lb G A B (k + 1) p = if p = G k then A p else lb G A B k p := by
  unfold lb
  rw [List.range_succ, List.any_append]
  by_cases h : p = G k
  · subst h; simp
  · have : (G k == p) = false := by simp; omega
    simp [this, h]
theorem lb_size (G : Nat → Nat) (A B : FB) (h : ∀ p, (A p).size = (B p).size) (k p : Nat) : (lb G A B k p).size = (B p).size := by
  unfold lb; split
  · exact h p
  · rfl
theorem hr_hg (K C : Nat → Int) (c : Int) : ∀ n p, p < n → hr K C c p = true → ∃ k, k < hn K C c n ∧ hg K C c n k = p
  | n + 1, p, h, hp => by
    by_cases h2 : p < n
    · obtain ⟨k, h3, h4⟩ := hr_hg K C c n p h2 hp
      refine ⟨k, ?_, by rw [hg_pre h3, h4]⟩
      unfold hn at *; rw [hl]; split
      · simp; omega
      · exact h3
    · have : p = n := by omega
      subst this
      refine ⟨hn K C c p, by simp [hn, hl, hp], by simp [hg, hn, hl, hp]⟩
theorem lb_all (K C : Nat → Int) (c : Int) (n : Nat) (A B : FB) (p : Nat) (hp : p < n) : lb (hg K C c n) (fun p => if hr K C c p = true then A p else B p) B (hn K C c n) p = if hr K C c p = true then A p else B p := by
  unfold lb
  by_cases h : hr K C c p = true
  · obtain ⟨k, h1, h2⟩ := hr_hg K C c n p hp h
    rw [if_pos (List.any_eq_true.2 ⟨k, List.mem_range.2 h1, by simp [h2]⟩)]
  · simp [h]
theorem can_yes (S : ByteArray) (nth : Int) (y : ByteArray) (i : Nat) (hi : i < nf S) (h : (if (if decide ((i : Int) = nth) = true then asks (fk S i) else false) = true then decide (((fb S i).size : Int) = y.size) else false) = true) : (i : Int) = nth ∧ can S nth y = true ∧ (fb S i).size = y.size := by
  by_cases h1 : (i : Int) = nth
  · subst h1
    simp only [decide_true, if_true] at h
    cases h2 : asks (fk S i) with
    | false => simp [h2] at h
    | true =>
      simp [h2] at h
      refine ⟨rfl, ?_, by omega⟩
      unfold can
      simp [h2]
      exact ⟨hi, by omega⟩
  · simp [h1] at h
theorem can_no (S : ByteArray) (nth : Int) (y : ByteArray) (i : Nat) (hi : i < nf S) (h0 : i = 0 ∨ (i : Int) ≤ nth) (h1 : ¬ (i : Int) + 1 ≤ nth) (h : (if (if decide ((i : Int) = nth) = true then asks (fk S i) else false) = true then decide (((fb S i).size : Int) = y.size) else false) = false) : can S nth y = false := by
  by_cases h1 : (i : Int) = nth
  · subst h1
    simp only [decide_true, if_true] at h
    unfold can
    cases h2 : asks (fk S i) with
    | false => simp [h2]
    | true => simp [h2] at h; simp [h2]; omega
  · have : nth < 0 := by omega
    unfold can
    simp; intro; omega
theorem can_end (S : ByteArray) (nth : Int) (y : ByteArray) (i : Nat) (hi : i = nf S) (h0 : i = 0 ∨ (i : Int) ≤ nth) : can S nth y = false := by
  unfold can
  by_cases h : 0 ≤ nth ∧ nth < (nf S : Int)
  · omega
  · simp; intro a b; omega
theorem swp_no (K C : Nat → Int) (n : Nat) (B : FB) (c nth : Int) (y : ByteArray) (h : can (sm K C B c n) nth y = false) : swp K C n B c nth y = B := by
  funext i; unfold swp; rw [if_neg (by simp [h])]
theorem swp_yes (K C : Nat → Int) (n : Nat) (B : FB) (c nth : Int) (y : ByteArray) (h : can (sm K C B c n) nth y = true) : swp K C n B c nth y = fun p => if hr K C c p = true then ovl (B p) (so K C B c p) (pos (sm K C B c n) nth.toNat + 4) y else B p := by
  funext i; unfold swp; simp only [h, true_and]
theorem sub_rst (S : ByteArray) (i : Nat) (h : i ≤ nf S) : std.sub S (castI (pos S i)) (std.of (std.ssize S)) = rst S i := by
  obtain ⟨_, h2, _⟩ := rst_eq S i h
  rw [h2]; simp only [s_subs, s_castI, s_of, s_ssz, Int.toNat_natCast]
theorem pos_room (S : ByteArray) (i : Nat) (h : i < nf S) : pos S i + 4 + (fb S i).size ≤ S.size := by
  have := pos_succ S h
  have := (rst_eq S (i + 1) (by omega)).1
  omega
theorem at_one (p : Nat) (h : p ≤ 3000000) : std.ar .add .i64 (castI p) 4 = ((p + 4 : Nat) : Int) := by rw [s_castI, s_add (by omega) (by omega)]; omega
theorem at_two (p z : Nat) (h : p + 4 + z ≤ 3000000) : std.ar .add .i64 (std.ar .add .i64 (castI p) 4) ((z : Nat) : Int) = ((p + 4 + z : Nat) : Int) := by rw [at_one p (by omega), s_add (by omega) (by omega)]; omega
theorem cat_rep (S y : ByteArray) (p : Nat) (h : p + 4 + y.size ≤ S.size) (hS : S.size ≤ 3000000) : std.cat (std.cat (std.sub S 0 (std.ar .add .i64 (castI p) 4)) y) (std.sub S (std.ar .add .i64 (std.ar .add .i64 (castI p) 4) (std.of (std.ssize y))) (std.of (std.ssize S))) = rep S (p + 4) y := by
  rw [s_of, s_ssz, s_of, s_ssz, at_two p y.size (by omega), at_one p (by omega)]
  simp only [s_cat, s_subs, Int.toNat_natCast]
  rfl
theorem xrest_zero (R : ByteArray) : xrest R 0 = R := by simp [xrest]
/-- What one place gets. -/
theorem place_gets (K C : Nat → Int) (B : Nat → ByteArray) (c : Int) (n : Nat) {k : Nat} (hk : k < hn K C c n) (a : Nat) (y : ByteArray) (ha : a + y.size ≤ (sm K C B c n).size) (A : FB) (hA : A = fun p => if hr K C c p = true then ovl (B p) (so K C B c p) a y else B p) :
    std.sub (xrest (rep (sm K C B c n) a y) (hs K C B c n k).size) 0 (((B (hg K C c n k)).size : Nat) : Int) = A (hg K C c n k) := by
  obtain ⟨h1, h2, h3⟩ := hs_at K C B c n hk
  rw [s_subs, Int.toNat_natCast]
  show (xrest _ _).extract 0 _ = _
  rw [xrest_take _ _ _ (by rw [rep_size _ _ _ ha]; omega), rep_piece K C B c n hk a y ha, hA]
  simp only [(hg_lt hk).2, if_true]
theorem place_next (K C : Nat → Int) (B : Nat → ByteArray) (c : Int) (n : Nat) {k : Nat} (hk : k < hn K C c n) (a : Nat) (y : ByteArray) (ha : a + y.size ≤ (sm K C B c n).size) :
    std.sub (xrest (rep (sm K C B c n) a y) (hs K C B c n k).size) (((B (hg K C c n k)).size : Nat) : Int) (std.of (std.ssize (xrest (rep (sm K C B c n) a y) (hs K C B c n k).size))) = xrest (rep (sm K C B c n) a y) (hs K C B c n (k + 1)).size := by
  obtain ⟨h1, h2, h3⟩ := hs_at K C B c n hk
  rw [s_subs, Int.toNat_natCast, s_of, s_ssz, Int.toNat_natCast, xrest_drop _ _ _ (by rw [rep_size _ _ _ ha]; omega), h1]
theorem updR_ev (K C U : Nat → Int) (B B' : FB) (p : Nat) (v : ByteArray) (h : ∀ q, B' q = if q = p then v else B q) : ∀ q, updR (evC K C U B) p (fun cs => setAt cs 3 (cellsOf (.v (.string v)))) q = evC K C U B' q := by
  intro q
  by_cases hj : q = p
  · subst hj
    simp only [updR, Nat.beq_refl, cond_true, evC, h, if_true]
    rfl
  · have hb : Nat.beq q p = false := by cases h : Nat.beq q p with | false => rfl | true => exact absurd (Nat.eq_of_beq_eq_true h) hj
    simp only [updR, hb, cond_false, evC, h, if_neg hj]
end Go.Sx.Sw
