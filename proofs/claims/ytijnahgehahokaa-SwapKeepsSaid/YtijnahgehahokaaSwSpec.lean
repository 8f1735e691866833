/- Swap, in plain words: heads and frames of bytes, what comes on a connection, other bodies. -/
import Derived.Test.YtijnahgehahokaaSxStd
set_option linter.unusedVariables false
set_option linter.unusedSimpArgs false
namespace Go.Sx.Sw
open Go.Sx
theorem bt_bd (b : ByteArray) (i : Nat) : 0 ≤ bt b i ∧ bt b i < 256 := by
  unfold bt
  have := (gb b i).toNat_lt
  omega
theorem gb_get (b : ByteArray) (i : Nat) (h : i < b.size) : gb b i = b[i] := by
  have h' : i < b.data.toList.length := by simpa using h
  unfold gb
  rw [List.getD_eq_getElem?_getD, List.getElem?_eq_getElem h']
  rfl
theorem gb_out (b : ByteArray) (i : Nat) (h : b.size ≤ i) : gb b i = 0 := by
  have h' : b.data.toList.length ≤ i := by simpa using h
  unfold gb
  rw [List.getD_eq_getElem?_getD, List.getElem?_eq_none h']; rfl
theorem gb_ext {a b : ByteArray} (hs : a.size = b.size) (h : ∀ i, i < a.size → gb a i = gb b i) : a = b :=
  ByteArray.ext_getElem hs fun i hi hi' => by rw [← gb_get a i hi, ← gb_get b i hi']; exact h i hi
theorem gb_extract (b : ByteArray) (s e i : Nat) (h : i < min e b.size - s) : gb (b.extract s e) i = gb b (s + i) := by
  have h1 : i < (b.extract s e).size := by rw [ByteArray.size_extract]; exact h
  rw [gb_get _ _ h1, ByteArray.getElem_extract, gb_get _ _ (by omega)]
theorem gb_append_left (a b : ByteArray) (i : Nat) (h : i < a.size) : gb (a ++ b) i = gb a i := by
  rw [gb_get _ _ (by rw [ByteArray.size_append]; omega), gb_get _ _ h, ByteArray.getElem_append_left h]
theorem gb_append_right (a b : ByteArray) (i : Nat) (h : a.size ≤ i) : gb (a ++ b) i = gb b (i - a.size) := by
  by_cases h2 : i < a.size + b.size
  · rw [gb_get _ _ (by rw [ByteArray.size_append]; omega), gb_get _ _ (by omega), ByteArray.getElem_append_right h]
  · rw [gb_out _ _ (by rw [ByteArray.size_append]; omega), gb_out _ _ (by omega)]

/-! ### Frames -/
def asks (k : Int) : Bool := k == 2 || k == 3 || k == 4 || k == 6 || k == 7
def kn (k : Int) : Bool := decide (1 ≤ k ∧ k ≤ 9)
def ln (b : ByteArray) : Int := bt b 2 * 256 + bt b 3
/-- What is wrong with a head; then with what stands behind it. -/
def herr (b : ByteArray) : Int := if (b.size : Int) < 4 then 2 else if kn (bt b 0) = false then 4 else if ln b > 1024 then 3 else 0
def err (b : ByteArray) : Int := if herr b ≠ 0 then herr b else if (b.size : Int) - 4 < ln b then 2 else 0
def wn (b : ByteArray) : Int := if herr b ≠ 0 then -1 else ln b
theorem ec1 {b : ByteArray} (h : (b.size : Int) < 4) : err b = 2 ∧ wn b = -1 := by
  have e : herr b = 2 := by rw [herr, if_pos h]
  simp [err, wn, e]
theorem ec2 {b : ByteArray} (h : ¬ (b.size : Int) < 4) (h2 : kn (bt b 0) = false) : err b = 4 ∧ wn b = -1 := by
  have e : herr b = 4 := by rw [herr, if_neg h, if_pos h2]
  simp [err, wn, e]
theorem ec3 {b : ByteArray} (h : ¬ (b.size : Int) < 4) (h2 : kn (bt b 0) = true) (h3 : ln b > 1024) : err b = 3 ∧ wn b = -1 := by
  have e : herr b = 3 := by rw [herr, if_neg h, if_neg (by simp [h2]), if_pos h3]
  simp [err, wn, e]
theorem ec45 {b : ByteArray} (h : ¬ (b.size : Int) < 4) (h2 : kn (bt b 0) = true) (h3 : ¬ ln b > 1024) : herr b = 0 := by rw [herr, if_neg h, if_neg (by simp [h2]), if_neg h3]
theorem ec4 {b : ByteArray} (h : ¬ (b.size : Int) < 4) (h2 : kn (bt b 0) = true) (h3 : ¬ ln b > 1024) (h4 : (b.size : Int) < 4 + ln b) : err b = 2 ∧ wn b = ln b := by
  have e := ec45 h h2 h3
  refine ⟨?_, ?_⟩
  · rw [err, if_neg (by simp [e]), if_pos (by omega)]
  · rw [wn, if_neg (by simp [e])]
theorem ec5 {b : ByteArray} (h : ¬ (b.size : Int) < 4) (h2 : kn (bt b 0) = true) (h3 : ¬ ln b > 1024) (h4 : ¬ (b.size : Int) < 4 + ln b) : err b = 0 := by
  have e := ec45 h h2 h3
  rw [err, if_neg (by simp [e]), if_neg (by omega)]
def bdy (b : ByteArray) : ByteArray := b.extract 4 (4 + (ln b).toNat)
def stp (b : ByteArray) : Nat := 4 + (ln b).toNat
theorem ln_bd (b : ByteArray) : 0 ≤ ln b ∧ ln b < 65536 := by have := bt_bd b 2; have := bt_bd b 3; unfold ln; omega
theorem err_zero {b : ByteArray} (h : err b = 0) : 4 ≤ b.size ∧ kn (bt b 0) = true ∧ ln b ≤ 1024 ∧ stp b ≤ b.size := by
  have hl := ln_bd b
  unfold err at h
  split at h
  · rename_i h1; exact absurd h h1
  · rename_i h1
    have h1' : herr b = 0 := by omega
    split at h
    · omega
    · rename_i h2
      unfold herr at h1'
      split at h1'
      · omega
      · split at h1'
        · omega
        · rename_i h3
          split at h1'
          · omega
          · exact ⟨by omega, by simpa using h3, by omega, by unfold stp; omega⟩
def rst (b : ByteArray) : Nat → ByteArray
  | 0 => b
  | i + 1 => (rst b i).extract (stp (rst b i)) (rst b i).size
def pos (b : ByteArray) : Nat → Nat
  | 0 => 0
  | i + 1 => pos b i + stp (rst b i)
def cnt : Nat → ByteArray → Nat
  | 0, _ => 0
  | n + 1, b => if err b = 0 then cnt n (b.extract (stp b) b.size) + 1 else 0
/-- How many frames there are. -/
def nf (b : ByteArray) : Nat := cnt (b.size + 1) b
theorem rst_shift (b : ByteArray) : ∀ i, rst (b.extract (stp b) b.size) i = rst b (i + 1)
  | 0 => rfl
  | i + 1 => by rw [rst, rst_shift b i]; rfl
theorem cnt_spec : ∀ (n : Nat) (b : ByteArray), b.size < n → (∀ i, i < cnt n b → err (rst b i) = 0) ∧ err (rst b (cnt n b)) ≠ 0
  | 0, b, h => by omega
  | n + 1, b, h => by
    by_cases he : err b = 0
    · have hz := err_zero he
      have h4 : 4 ≤ stp b := by unfold stp; omega
      have hs : (b.extract (stp b) b.size).size < n := by rw [ByteArray.size_extract]; omega
      obtain ⟨h1, h2⟩ := cnt_spec n _ hs
      have e : cnt (n + 1) b = cnt n (b.extract (stp b) b.size) + 1 := by rw [cnt, if_pos he]
      rw [e]
      refine ⟨fun i hi => ?_, by rw [← rst_shift]; exact h2⟩
      cases i with
      | zero => exact he
      | succ i => rw [← rst_shift]; exact h1 i (by omega)
    · have e : cnt (n + 1) b = 0 := by rw [cnt, if_neg he]
      rw [e]
      exact ⟨fun i hi => by omega, he⟩
theorem nf_ok (b : ByteArray) {i : Nat} (h : i < nf b) : err (rst b i) = 0 := (cnt_spec (b.size + 1) b (by omega)).1 i h
theorem nf_end (b : ByteArray) : err (rst b (nf b)) ≠ 0 := (cnt_spec (b.size + 1) b (by omega)).2
theorem rst_eq (b : ByteArray) : ∀ i, i ≤ nf b → pos b i ≤ b.size ∧ rst b i = b.extract (pos b i) b.size ∧ 4 * i ≤ pos b i
  | 0, _ => by simp [rst, pos]
  | i + 1, h => by
    obtain ⟨h1, h2, h3⟩ := rst_eq b i (by omega)
    have hz := err_zero (nf_ok b (i := i) (by omega))
    have hsz : (rst b i).size = b.size - pos b i := by rw [h2, ByteArray.size_extract]; omega
    have h4 : 4 ≤ stp (rst b i) := by unfold stp; omega
    refine ⟨by rw [pos]; omega, ?_, by rw [pos]; omega⟩
    rw [rst, pos, h2, ByteArray.extract_extract]
    have e : b.extract (pos b i) b.size = rst b i := h2.symm
    rw [e, hsz]
    congr 1
    omega
theorem rst_size (b : ByteArray) {i : Nat} (h : i ≤ nf b) : (rst b i).size = b.size - pos b i := by
  obtain ⟨h1, h2, _⟩ := rst_eq b i h
  rw [h2, ByteArray.size_extract]; omega
theorem nf_le (b : ByteArray) : nf b ≤ b.size := by obtain ⟨h1, _, h3⟩ := rst_eq b (nf b) (Nat.le_refl _); omega
def fk (b : ByteArray) (i : Nat) : Int := bt (rst b i) 0
def ff (b : ByteArray) (i : Nat) : Int := bt (rst b i) 1
def fb (b : ByteArray) (i : Nat) : ByteArray := bdy (rst b i)

/-! ### Connections -/
def opn (K : Nat → Int) : Nat → Nat
  | 0 => 0
  | i + 1 => opn K i + if K i = 1 then 1 else 0
def hr (K C : Nat → Int) (c : Int) (i : Nat) : Bool := decide (K i = 2 ∧ C i = c ∧ 0 ≤ c ∧ c ≤ 15 ∧ c < (opn K i : Int))
theorem opn_le (K : Nat → Int) : ∀ i, opn K i ≤ i
  | 0 => Nat.le_refl _
  | i + 1 => by have := opn_le K i; rw [opn]; split <;> omega
/-- What comes on a connection, of the first events. -/
def sm (K C : Nat → Int) (B : Nat → ByteArray) (c : Int) : Nat → ByteArray
  | 0 => ⟨#[]⟩
  | i + 1 => if hr K C c i = true then sm K C B c i ++ B i else sm K C B c i
theorem sm_size {K C : Nat → Int} {B : Nat → ByteArray} {c : Int} {n : Nat} (hB : ∀ i, i < n → (B i).size ≤ 20000) : ∀ i, i ≤ n → (sm K C B c i).size ≤ 20000 * i
  | 0, _ => by show (0 : Nat) ≤ _; omega
  | i + 1, h => by
    have := sm_size (K := K) (C := C) (c := c) hB i (by omega)
    have := hB i (by omega)
    rw [sm]; split
    · rw [ByteArray.size_append]; omega
    · omega
/-- Where an event's bytes begin. -/
def so (K C : Nat → Int) (B : Nat → ByteArray) (c : Int) (i : Nat) : Nat := (sm K C B c i).size
/-- An event's bytes behind a swap of the bytes from a place on. -/
def ovl (b : ByteArray) (o from_ : Nat) (x : ByteArray) : ByteArray :=
  ⟨((List.range b.size).map fun k => if from_ ≤ o + k ∧ o + k < from_ + x.size then gb x (o + k - from_) else gb b k).toArray⟩
theorem ovl_size (b : ByteArray) (o f : Nat) (x : ByteArray) : (ovl b o f x).size = b.size := by show (Array.size _) = _; simp [ovl]
theorem ovl_gb (b : ByteArray) (o f : Nat) (x : ByteArray) (k : Nat) (h : k < b.size) : gb (ovl b o f x) k = if f ≤ o + k ∧ o + k < f + x.size then gb x (o + k - f) else gb b k := by
  simp [gb, ovl, List.getD_eq_getElem?_getD, h]
/-- Is it a swap that may be done? -/
def can (S : ByteArray) (nth : Int) (x : ByteArray) : Bool := decide (0 ≤ nth ∧ nth < (nf S : Int)) && asks (fk S nth.toNat) && (fb S nth.toNat).size == x.size
/-- The bytes of the events behind a swap. -/
def swp (K C : Nat → Int) (n : Nat) (B : Nat → ByteArray) (c nth : Int) (x : ByteArray) : Nat → ByteArray := fun i =>
  if can (sm K C B c n) nth x = true ∧ hr K C c i = true then ovl (B i) (so K C B c i) (pos (sm K C B c n) nth.toNat + 4) x else B i
theorem swp_size (K C : Nat → Int) (n : Nat) (B : Nat → ByteArray) (c nth : Int) (x : ByteArray) (i : Nat) : (swp K C n B c nth x i).size = (B i).size := by
  unfold swp; split
  · exact ovl_size _ _ _ _
  · rfl
def swps (K C : Nat → Int) (n : Nat) (cs ns : Nat → Int) (xs : Nat → ByteArray) (B : Nat → ByteArray) : Nat → Nat → ByteArray
  | 0 => B
  | j + 1 => swp K C n (swps K C n cs ns xs B j) (cs j) (ns j) (xs j)
theorem swps_size (K C : Nat → Int) (n : Nat) (cs ns : Nat → Int) (xs : Nat → ByteArray) (B : Nat → ByteArray) : ∀ j i, (swps K C n cs ns xs B j i).size = (B i).size
  | 0, _ => rfl
  | j + 1, i => by rw [swps, swp_size, swps_size]

/-- The events that come on a connection. -/
def hl (K C : Nat → Int) (c : Int) : Nat → List Nat
  | 0 => []
  | i + 1 => if hr K C c i = true then hl K C c i ++ [i] else hl K C c i
theorem hl_len (K C : Nat → Int) (c : Int) : ∀ i, (hl K C c i).length ≤ i
  | 0 => by simp [hl]
  | i + 1 => by have := hl_len K C c i; rw [hl]; split <;> simp <;> omega
theorem hl_lt (K C : Nat → Int) (c : Int) : ∀ i x, x ∈ hl K C c i → x < i ∧ hr K C c x = true
  | 0, x, h => by simp [hl] at h
  | i + 1, x, h => by
    rw [hl] at h
    split at h
    · rename_i hh
      rcases List.mem_append.1 h with h | h
      · have := hl_lt K C c i x h; exact ⟨by omega, this.2⟩
      · have : x = i := by simpa using h
        subst this; exact ⟨by omega, hh⟩
    · have := hl_lt K C c i x h; exact ⟨by omega, this.2⟩
def hn (K C : Nat → Int) (c : Int) (i : Nat) : Nat := (hl K C c i).length
def hg (K C : Nat → Int) (c : Int) (i j : Nat) : Nat := (hl K C c i).getD j 0
/-- The bytes of the first of them. -/
def hs (K C : Nat → Int) (B : Nat → ByteArray) (c : Int) (n : Nat) : Nat → ByteArray
  | 0 => ⟨#[]⟩
  | k + 1 => hs K C B c n k ++ B (hg K C c n k)
theorem hg_lt {K C : Nat → Int} {c : Int} {n k : Nat} (h : k < hn K C c n) : hg K C c n k < n ∧ hr K C c (hg K C c n k) = true := by
  unfold hn at h
  have hm : hg K C c n k ∈ hl K C c n := by unfold hg; rw [List.getD_eq_getElem?_getD, List.getElem?_eq_getElem h]; exact List.getElem_mem h
  exact hl_lt K C c n _ hm
theorem hs_prefix {K C : Nat → Int} {B : Nat → ByteArray} {c : Int} {n m : Nat} (h : ∀ k, k < m → hg K C c n k = hg K C c (n + 1) k) : ∀ k, k ≤ m → hs K C B c n k = hs K C B c (n + 1) k
  | 0, _ => rfl
  | k + 1, hk => by rw [hs, hs, hs_prefix h k (by omega), h k (by omega)]
theorem hg_pre {K C : Nat → Int} {c : Int} {n k : Nat} (h : k < hn K C c n) : hg K C c (n + 1) k = hg K C c n k := by
  unfold hg hn at *
  rw [hl]
  split
  · rw [List.getD_eq_getElem?_getD, List.getD_eq_getElem?_getD, List.getElem?_append_left h]
  · rfl
theorem hs_all (K C : Nat → Int) (B : Nat → ByteArray) (c : Int) : ∀ n, hs K C B c n (hn K C c n) = sm K C B c n
  | 0 => rfl
  | n + 1 => by
    have ih := hs_all K C B c n
    rw [sm]
    by_cases h : hr K C c n = true
    · rw [if_pos h]
      have e1 : hn K C c (n + 1) = hn K C c n + 1 := by simp [hn, hl, h]
      have e2 : hg K C c (n + 1) (hn K C c n) = n := by simp [hg, hn, hl, h]
      rw [e1, hs, e2, ← ih, hs_prefix (fun k hk => (hg_pre hk).symm) _ (Nat.le_refl _)]
    · rw [if_neg h]
      have e1 : hn K C c (n + 1) = hn K C c n := by simp [hn, hl, h]
      rw [e1, ← ih, hs_prefix (fun k hk => (hg_pre hk).symm) _ (Nat.le_refl _)]
theorem hs_size {K C : Nat → Int} {B : Nat → ByteArray} {c : Int} {n : Nat} (hB : ∀ i, i < n → (B i).size ≤ 20000) : ∀ k, k ≤ hn K C c n → (hs K C B c n k).size ≤ 20000 * k
  | 0, _ => by show (0 : Nat) ≤ _; omega
  | k + 1, h => by
    have := hs_size (K := K) (C := C) (c := c) hB k (by omega)
    have := hB _ (hg_lt (c := c) (K := K) (C := C) (k := k) (n := n) (by omega)).1
    rw [hs, ByteArray.size_append]; omega
end Go.Sx.Sw
