/- What is read of an argument made of integers, bools and strings, where its strings are told to be short. -/
import Derived.Test.YtijnahgehahokaaSxOpen
import Derived.SizedLaws
set_option linter.unusedVariables false
namespace Go.Sx
def ckOkB (Bd : Nat) : CK → Value → Prop
  | .int k, v => ∃ n, v = .int k n
  | .bool, v => ∃ b, v = .bool b
  | .str, v => ∃ s : ByteArray, v = .string s ∧ s.size ≤ Bd
def shapeB (Bd : Nat) : List CK → List Value → Prop
  | [], vs => vs = []
  | k :: ks, vs => ∃ v r, vs = v :: r ∧ ckOkB Bd k v ∧ shapeB Bd ks r
theorem shapeB_append {Bd : Nat} : ∀ {ks ls : List CK} {us vs : List Value}, shapeB Bd ks us → shapeB Bd ls vs → shapeB Bd (ks ++ ls) (us ++ vs)
  | [], _, _, _, h, k => by simp only [shapeB] at h; subst h; exact k
  | k :: ks, _, _, _, h, k' => by
    simp only [shapeB] at h
    obtain ⟨v, r, rfl, h1, h2⟩ := h
    exact ⟨v, r ++ _, rfl, h1, shapeB_append h2 k'⟩
theorem weights_each {H : Type} {P : Program} : ∀ {ts : List TypeId} {ds : List (DataW H)} {Bd : Nat}, (DataW.weightsEach P ts ds).all (· ≤ Bd) = true → ∀ (j : Nat) t d, ts[j]? = some t → ds[j]? = some d → (d.weights P t).all (· ≤ Bd) = true := by
  intro ts ds Bd h j t d ht hd
  rw [List.all_eq_true] at h ⊢
  exact fun n hn => h n (DataW.weights_mem_each ht hd n hn)
theorem weights_all {H : Type} {P : Program} {e : TypeId} {Bd : Nat} : ∀ {ds : List (DataW H)}, (DataW.weightsAll P e ds).all (· ≤ Bd) = true → ∀ (j : Nat) d, ds[j]? = some d → (d.weights P e).all (· ≤ Bd) = true
  | d :: r, h, j, d', hd => by
    simp only [DataW.weightsAll, List.all_append, Bool.and_eq_true] at h
    cases j with
    | zero => simp at hd; subst hd; exact h.1
    | succ j => exact weights_all h.2 j d' (by simpa using hd)
  | [], _, j, _, hd => by simp at hd
section
variable {H : Type} {enc : TypeId × Value → H} {P : Program} {w : World} {base : Nat} {spare : Nat → Bool} {held : Bool}
mutual
theorem trod_shapeB {Bd : Nat} : ∀ (d : Nat) {t : TypeId} {ks : List CK} {fuel : Nat} {cs : List Value} {x : DataW H × List MemPlace}, kindsOf P d t = some ks → DataW.trod enc P w base spare held fuel t cs = some x → (x.1.weights P t).all (· ≤ Bd) = true → shapeB Bd ks cs
  | 0, _, _, _, _, _, h, _, _ => by simp [kindsOf] at h
  | d + 1, t, ks, fuel, cs, x, h, hx, hw => by
    unfold kindsOf at h
    split at h
    · rename_i k ht
      cases h
      obtain ⟨n, rfl, _⟩ := DataW.trod_int ht hx
      exact ⟨_, [], rfl, ⟨n, rfl⟩, rfl⟩
    · rename_i ht
      cases h
      obtain ⟨b, rfl⟩ := trod_bool' ht hx
      exact ⟨_, [], rfl, ⟨b, rfl⟩, rfl⟩
    · rename_i ht
      cases h
      obtain ⟨s, rfl, rfl, hs⟩ := DataW.trod_string ht hx
      exact ⟨_, [], rfl, ⟨s, rfl, by simpa [DataW.weights] using hw⟩, rfl⟩
    · rename_i fs ht
      split at h
      case h_2 => cases h
      rename_i ks' hk
      split at h
      case isFalse => cases h
      rename_i hc
      cases h
      obtain ⟨xs, n, _, rfl, hl, hlen, hf⟩ := DataW.trod_struct ht hx
      simp only [DataW.weights, ht] at hw
      have := trodL_shapeB d (off := 0) (fs := fs.toList) (cs := cs) hk (by omega) (fun i f hi => by
        have := hf i f (by simpa using hi)
        have hlt : i < fs.size := by have := (List.getElem?_eq_some_iff.1 hi).1; simpa using this
        refine ⟨n, _, this.trans (List.getElem?_eq_getElem (by omega)), weights_each hw i f.type _ (by rw [List.getElem?_map, hi]; rfl) (by rw [List.getElem?_map, List.getElem?_eq_getElem (by omega)]; rfl)⟩)
      simpa using this
    · cases h
theorem trodL_shapeB {Bd : Nat} : ∀ (d : Nat) {off : Nat} {fs : List Field} {ks : List CK} {cs : List Value}, kindsL P d off fs = some ks → cs.length = off + ks.length →
    (∀ (i : Nat) (f : Field), fs[i]? = some f → ∃ n x, DataW.trod enc P w base spare held n f.type ((cs.drop f.offset).take (P.cellsOf f.type)) = some x ∧ (x.1.weights P f.type).all (· ≤ Bd) = true) → shapeB Bd ks (cs.drop off)
  | d, off, [], ks, cs, h, hl, _ => by
    have : ks = [] := by cases d <;> simp [kindsL] at h <;> exact h
    subst this
    simp only [shapeB]
    exact List.drop_eq_nil_of_le (by simp at hl; omega)
  | 0, _, _ :: _, _, _, h, _, _ => by simp [kindsL] at h
  | d + 1, off, f :: fs, ks, cs, h, hl, hf => by
    unfold kindsL at h
    split at h
    case h_2 => cases h
    rename_i k1 h1
    split at h
    case isFalse => cases h
    rename_i hc
    split at h
    case h_2 => cases h
    rename_i r hr
    cases h
    obtain ⟨n, x, hx, hw⟩ := hf 0 f rfl
    have s1 := trod_shapeB d h1 hx hw
    have s2 := trodL_shapeB d (cs := cs) hr (by simp at hl; omega) (fun i g hi => hf (i + 1) g (by simpa using hi))
    have e : cs.drop off = (cs.drop f.offset).take (P.cellsOf f.type) ++ cs.drop (off + k1.length) := by
      rw [hc.1, hc.2, ← List.drop_drop, List.take_append_drop]
    rw [e]
    exact shapeB_append s1 s2
end
end
end Go.Sx
