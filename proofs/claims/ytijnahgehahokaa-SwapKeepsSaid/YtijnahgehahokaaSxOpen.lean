/- What is read of an argument whose type is made of integers, bools and strings: its cells, one by one. -/
import Derived.WalkKit
import Derived.ProofKit
import Derived.OpenShut
import Derived.ChangeArms
import Derived.Deep.Slices
set_option linter.unusedVariables false
namespace Go.Sx
inductive CK where
  | int (k : IntKind)
  | bool
  | str
def ckOk : CK → Value → Prop
  | .int k, v => ∃ n, v = .int k n
  | .bool, v => ∃ b, v = .bool b
  | .str, v => ∃ s : ByteArray, v = .string s ∧ s.size ≤ maxLen
def shape : List CK → List Value → Prop
  | [], vs => vs = []
  | k :: ks, vs => ∃ v r, vs = v :: r ∧ ckOk k v ∧ shape ks r
mutual
def kindsOf (P : Program) : Nat → TypeId → Option (List CK)
  | 0, _ => none
  | d + 1, t =>
    match P.underlying t with
    | some (.int k) => some [.int k]
    | some .bool => some [.bool]
    | some .string => some [.str]
    | some (.struct fs) => match kindsL P d 0 fs.toList with | some ks => if P.cellsOf t = ks.length then some ks else none | none => none
    | _ => none
def kindsL (P : Program) : Nat → Nat → List Field → Option (List CK)
  | _, _, [] => some []
  | 0, _, _ => none
  | d + 1, off, f :: fs =>
    match kindsOf P d f.type with
    | some ks => if f.offset = off ∧ P.cellsOf f.type = ks.length then (match kindsL P d (off + ks.length) fs with | some r => some (ks ++ r) | none => none) else none
    | none => none
end
theorem shape_append : ∀ {ks ls : List CK} {us vs : List Value}, shape ks us → shape ls vs → shape (ks ++ ls) (us ++ vs)
  | [], _, _, _, h, k => by simp only [shape] at h; subst h; exact k
  | k :: ks, _, _, _, h, k' => by
    simp only [shape] at h
    obtain ⟨v, r, rfl, h1, h2⟩ := h
    exact ⟨v, r ++ _, rfl, h1, shape_append h2 k'⟩
theorem shape_length : ∀ {ks : List CK} {us : List Value}, shape ks us → us.length = ks.length
  | [], _, h => by simp only [shape] at h; subst h; rfl
  | k :: ks, _, h => by
    simp only [shape] at h
    obtain ⟨v, r, rfl, _, h2⟩ := h
    simp [shape_length h2]
section
variable {H : Type} {enc : TypeId × Value → H} {P : Program} {w : World} {base : Nat} {spare : Nat → Bool} {held : Bool}
theorem trod_bool' {t : TypeId} {fuel : Nat} {cs : List Value} {x : DataW H × List MemPlace} (ht : P.underlying t = some .bool) (h : DataW.trod enc P w base spare held fuel t cs = some x) : ∃ b, cs = [.bool b] := by
  cases fuel with
  | zero => simp [DataW.trod] at h
  | succ n =>
    unfold DataW.trod at h
    rw [ht] at h
    split at h <;> simp_all
mutual
theorem trod_shape : ∀ (d : Nat) {t : TypeId} {ks : List CK} {fuel : Nat} {cs : List Value} {x : DataW H × List MemPlace}, kindsOf P d t = some ks → DataW.trod enc P w base spare held fuel t cs = some x → shape ks cs
  | 0, _, _, _, _, _, h, _ => by simp [kindsOf] at h
  | d + 1, t, ks, fuel, cs, x, h, hx => by
    unfold kindsOf at h
    split at h
    · rename_i k ht
      cases h
      obtain ⟨n, rfl, _⟩ := DataW.trod_int ht hx
      exact ⟨_, [], rfl, ⟨n, rfl⟩, rfl⟩
    · rename_i ht
      cases h
      obtain ⟨b, rfl⟩ := trod_bool' ht hx
      exact ⟨_, [], rfl, ⟨b, rfl⟩, rfl⟩
    · rename_i ht
      cases h
      obtain ⟨s, rfl, _, hs⟩ := DataW.trod_string ht hx
      exact ⟨_, [], rfl, ⟨s, rfl, hs⟩, rfl⟩
    · rename_i fs ht
      split at h
      case h_2 => cases h
      rename_i ks' hk
      split at h
      case isFalse => cases h
      rename_i hc
      cases h
      obtain ⟨xs, n, _, _, hl, hlen, hf⟩ := DataW.trod_struct ht hx
      have := trodL_shape d (off := 0) (fs := fs.toList) (cs := cs) hk (by omega) (fun i f hi => by
        have := hf i f (by simpa using hi)
        have hlt : i < fs.size := by have := (List.getElem?_eq_some_iff.1 hi).1; simpa using this
        exact ⟨n, _, this.trans (List.getElem?_eq_getElem (by omega))⟩)
      simpa using this
    · cases h
theorem trodL_shape : ∀ (d : Nat) {off : Nat} {fs : List Field} {ks : List CK} {cs : List Value}, kindsL P d off fs = some ks → cs.length = off + ks.length →
    (∀ (i : Nat) (f : Field), fs[i]? = some f → ∃ n x, DataW.trod enc P w base spare held n f.type ((cs.drop f.offset).take (P.cellsOf f.type)) = some x) → shape ks (cs.drop off)
  | d, off, [], ks, cs, h, hl, _ => by
    have : ks = [] := by cases d <;> simp [kindsL] at h <;> exact h
    subst this
    simp only [shape]
    exact List.drop_eq_nil_of_le (by simp at hl; omega)
  | 0, _, _ :: _, _, _, h, _, _ => by simp [kindsL] at h
  | d + 1, off, f :: fs, ks, cs, h, hl, hf => by
    unfold kindsL at h
    split at h
    case h_2 => cases h
    rename_i k1 h1
    split at h
    case isFalse => cases h
    rename_i hc
    split at h
    case h_2 => cases h
    rename_i r hr
    cases h
    obtain ⟨n, x, hx⟩ := hf 0 f rfl
    have s1 := trod_shape d h1 hx
    have s2 := trodL_shape d (cs := cs) hr (by simp at hl; omega) (fun i g hi => hf (i + 1) g (by simpa using hi))
    have e : cs.drop off = (cs.drop f.offset).take (P.cellsOf f.type) ++ cs.drop (off + k1.length) := by
      rw [hc.1, hc.2, ← List.drop_drop, List.take_append_drop]
    rw [e]
    exact shape_append s1 s2
end
end
end Go.Sx
