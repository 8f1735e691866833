/- One operation, and a region's operations one behind the other. -/
import Derived.Test.YtijnahgehahokaaSxSoundX
import Derived.Lib.SliceRun
set_option linter.unusedVariables false
set_option linter.unusedSimpArgs false
namespace Go.Sx
open Go.RowKit
variable {P : Program} {tab : Tab}

/-- What a call comes to. -/
def CallsTo (P : Program) (f : FuncId) (args : List SV) (H : Heap) (κ : SV → Heap → Prop) (E : Env) (vals : List Value) : Prop :=
  Calls P f vals.toArray E.w fun e w' => ∃ u E' r H', e = .returned u ∧ E'.w = w' ∧ Ext E E' ∧ Ok H' E' ∧ H.length ≤ H'.length ∧ rel r E' u ∧ κ r H'
def CallOk (P : Program) (call : CallH) : Prop :=
  ∀ f args H κ, call f args H κ → Callable P f ∧ ∀ E vals, Ok H E → relL args E vals → CallsTo P f args H κ E vals

theorem isNilSlice_eq {op : Op} (h : isNilSlice op = true) : op = .assign (.const (.slice none 0 0)) := by
  unfold isNilSlice at h
  split at h
  · rfl
  · cases h

/-- An append of a string to a row of bytes of one's own. -/
theorem appendS_ok (hT : TabOk P tab) {E : Env} {H : Heap} (hO : Ok H E) {r ver : Nat} {ty : TypeId} {n : Nat} {get : Nat → List SV} {v : Value} (hH : H[r]? = some (.row ty 1 n get ver)) (hv : rel (.o r ver) E v)
    {b : ByteArray} (hti : lk tab.ty ty = some ⟨.int .u8, 1, .int .u8 0, 1⟩) (hroom : n + b.size ≤ maxLen ∧ (n + b.size) * 1 ≤ 140737488355328)
    {t t2 : TypeId} (ht : P.underlying t = some (.slice ty)) (ht2 : P.underlying t2 = some .string) (rt : TypeId) :
    ∃ v' E', (Builtin.append_ #[t, t2] rt #[v, .string b]).run P E.w = .ok v' E'.w ∧ Ext E E' ∧ Ok (H.set r (.row ty 1 (n + b.size) (app n get (bytesG std b)) (ver + 1))) E' ∧ rel (.o r (ver + 1)) E' v' := by
  obtain ⟨v0, xs, h1, h0, h2, h3, h5, h4⟩ := hO.blocks r _ hH
  simp only [rel] at hv
  rw [hv.1] at h1
  cases h1
  obtain ⟨it, hit, hits, hitz, hitb⟩ := (hT.ty ty _ hti).info
  have hzs := (hT.ty ty _ hti).zsz
  obtain ⟨d, hd, hd'⟩ := (hT.ty ty _ hti).und
  simp only at hits hitz hitb hzs hd'
  subst hd'
  obtain ⟨v', w', q1, q2, q3, q4, q5⟩ := run_appendS_where (P := P) t t2 rt ty it ht ht2 hit hitz hits hitb v n xs h2 b hroom.1 (by omega)
  obtain ⟨E', rfl, k1, k2, k3⟩ := grown_ok hO hH hv.1 h0 h2 h3 h5 h4 q2 q3 q4 q5 (Lib.strCells_oneCell b) (get' := bytesG std b) (fun j hj => by
    have hj' : j < b.data.toList.length := by simpa using hj
    have e : ((Lib.strCells b).drop (j * 1)).take 1 = [Value.int .u8 (b.data.toList.getD j 0).toNat] := by
      rw [Nat.mul_one, Lib.strCells, ← List.map_drop, ← List.map_take, List.drop_eq_getElem_cons hj']
      simp [List.getD, List.getElem?_eq_getElem hj']
    rw [e]
    simp only [bytesG, relL, rel]
    exact ⟨_, [], rfl, by simp [std], rfl⟩)
  exact ⟨v', E', q1, k1, k2, k3⟩

theorem stE_ok (hT : TabOk P tab) {E : Env} {H : Heap} (hO : Ok H E) {s : Slots} {a : Act} (hs : SlotsOk E s a) {t : TypeId} {x y : Operand} {ti : TI} (hti : lk tab.ty t = some ti) {κ : SV → Heap → Prop}
    (h : stE std H ti (opd s x) (opd s y) κ) {dst : Option Nat} {type : TypeId} {pos : String} {after : Array Edge} {guard : Option (Nat × Bool)} {K : Act → World → Prop} {Q' : Exit → Act → World → Prop}
    (hK : ∀ E' r H' u, κ r H' → Ext E E' → Ok H' E' → H.length ≤ H'.length → rel r E' u → K (a.put dst u) E'.w) :
    Oper.wp P { dst, op := .store t x y, type, pos, after, guard } a E.w K Q' := by
  have kx := opd_ok hs x
  have ky := opd_ok hs y
  obtain ⟨it, hit, hits, _⟩ := (hT.ty t ti hti).info
  unfold stE at h
  split at h
  · rename_i i ver j off hx
    split at h
    case h_2 => exact h.elim
    rename_i ty sz n get ver' hi
    split at h
    case isFalse => exact h.elim
    rename_i hc
    simp only [Bool.and_eq_true] at hc
    obtain ⟨⟨⟨hc1, hc2⟩, hc3⟩, hc4⟩ := hc
    have hlen := Nat.eq_of_beq_eq_true hc1
    have hle := Nat.le_of_ble_eq_true hc4
    obtain ⟨heq, hjn, hκ⟩ := h
    simp only [std] at heq hjn
    subst heq
    rw [hx] at kx
    simp only [rel] at kx
    obtain ⟨b, o, n', c, sz', q1, q2, hxe⟩ := kx
    obtain ⟨k1, k2⟩ := cells_ok hc2 ky
    have hl1 := relL_length k1
    obtain ⟨g, cap, e1, hthere, hx', hO'⟩ := rowStore_ok hO hi q1 (j := j) (off := off) (by omega) k1 hc3 k2 (by omega)
    cases e1
    obtain ⟨_, _, _, p2, _⟩ := hO.blocks i _ hi
    rw [q2] at p2; cases p2
    have hrun := run_storeVar_mid (P := P) E.w b (j * sz + off) t (a.eval y).cells (by simpa using hthere) (by rw [hit]; simp at hl1; simp [hits]; omega) (by rw [Array.all_eq_true_iff_forall_mem]; exact fun c hcm => k2 c (by simpa using hcm))
    have hrun' : (storeVar t ⟨b, j * sz + off, none⟩ (a.eval y)).run P E.w = .ok () (E.w.setCells b (j * sz + off) (a.eval y).cells.toList) := by
      rw [← hrun]; rfl
    have := hK _ _ _ undef hκ hx' hO' (by simp) (rel_any _ _)
    unfold Oper.wp execOp
    rw [Nat.zero_add] at hxe
    simp only [Instr.storeAt, Instr.sureAddr, hxe, Sem.run_bind, Sem.run_pure, Result.andThen_ok, hrun', Oper.upon]
    exact this
  · rename_i i ix hx
    split at h
    case h_2 => exact h.elim
    rename_i n get c hi hy
    split at h
    case isFalse => exact h.elim
    rename_i hsz
    have hsz' := Nat.eq_of_beq_eq_true hsz
    obtain ⟨hin, hκ⟩ := h
    simp only [std] at hin hκ
    rw [hx] at kx
    simp only [rel] at kx
    obtain ⟨b, hb, hxe⟩ := kx
    rw [hy] at ky
    simp only [rel] at ky
    obtain ⟨hthere, hx', hO'⟩ := bufStore_ok hO hi hb (j := ix.toNat) (by omega) c
    have hrun := run_storeVar_mid (P := P) E.w b ix.toNat t #[.int .u8 c] (by simpa using hthere) (by rw [hit]; simp [hits, hsz']) (by simp [Value.oneCell'])
    have hrun' : (storeVar t ⟨b, ix.toNat, none⟩ (.int .u8 c)).run P E.w = .ok () (E.w.setCells b ix.toNat [.int .u8 c]) := by
      rw [← hrun]; rfl
    have := hK _ _ _ undef hκ hx' hO' (by simp) (rel_any _ _)
    unfold Oper.wp execOp
    simp only [Nat.zero_add, Nat.mul_one, Nat.add_zero] at hxe
    simp only [Instr.storeAt, Instr.sureAddr, hxe, ky, Sem.run_bind, Sem.run_pure, Result.andThen_ok, hrun', Oper.upon]
    exact this
  · exact h.elim

theorem stepX_ok (hT : TabOk P tab) {E : Env} {H : Heap} (hO : Ok H E) {s : Slots} {a : Act} (hs : SlotsOk E s a) {op : Op} {κ : SV → Heap → Prop}
    (h : stepX std tab s H op κ) {dst : Option Nat} {type : TypeId} {pos : String} {after : Array Edge} {guard : Option (Nat × Bool)} {K : Act → World → Prop} {Q' : Exit → Act → World → Prop}
    (hK : ∀ E' r H' u, κ r H' → Ext E E' → Ok H' E' → H.length ≤ H'.length → rel r E' u → (isNew op = true → Below E.w.heap.size E.w E'.w) → K (a.put dst u) E'.w) :
    Oper.wp P { dst, op, type, pos, after, guard } a E.w K Q' := by
  unfold stepX at h
  split at h
  · rename_i src dt x
    have kx := opd_ok hs x
    split at h
    · rename_i el _ _ _ b hsrc hdst hx
      split at h
      case h_2 => exact h.elim
      rename_i hel
      obtain ⟨d1, hd1, _⟩ := (hT.ty src _ hsrc).und
      obtain ⟨d2, hd2, hd2'⟩ := (hT.ty dt _ hdst).und
      simp only at hd2'
      subst hd2'
      obtain ⟨d3, hd3, hd3'⟩ := (hT.ty el _ hel).und
      simp only at hd3'
      subst hd3'
      rw [hx] at kx
      simp only [rel] at kx
      obtain ⟨E', k0, k1, k2, k3⟩ := newBuf_ok hO el b
      have := hK E' _ _ _ h k1 k2 (by simp) k3 (fun hn => by cases hn)
      rw [k0] at this
      unfold Oper.wp execOp
      simp only [kx, Lib.run_convert_string_bytes E.w src dt el b hd1 hd2 hd3, Sem.run_bind, Sem.run_pure, Result.andThen_ok, Oper.upon]
      exact this
    · rename_i el _ _ _ _ _ _ r ver hsrc hdst hx
      split at h
      case h_2 => exact h.elim
      rename_i n get hel hi
      obtain ⟨heq, b, hbn, hget, hκ⟩ := h
      simp only [std] at heq hbn hget
      subst heq
      obtain ⟨d1, hd1, hd1'⟩ := (hT.ty src _ hsrc).und
      simp only at hd1'
      subst hd1'
      obtain ⟨d2, hd2, hd2'⟩ := (hT.ty dt _ hdst).und
      simp only at hd2'
      subst hd2'
      obtain ⟨d3, hd3, hd3'⟩ := (hT.ty el _ hel).und
      simp only at hd3'
      subst hd3'
      rw [hx] at kx
      simp only [rel] at kx
      obtain ⟨g, cs, ty, cp, h1, h2, h3, h4, h5, h6⟩ := hO.blocks r _ hi
      rw [kx.1] at h5
      simp only [Option.some.injEq] at h5
      have hbl : b.data.toList.length = n := by simpa using hbn
      have hcell : ∀ j (hj : j < b.data.toList.length), E.w.cell? ((⟨g, 0, none⟩ : Addr).add j) = some (.int .u8 (b.data.toList[j].toNat : Int)) := by
        intro j hj
        rw [Addr.add_mid, cell_of_row E.w g _ cs ty _ h3, Nat.zero_add, h6 j (by omega), hget j (by omega)]
        simp [List.getElem?_eq_getElem hj]
      have hrun := run_convert_bytes_back (P := P) E.w src dt el ⟨g, 0, none⟩ cp b.data.toList hd1 hd3 hd2 hcell
      rw [hbl] at hrun
      have hrun2 : (convert src dt (a.eval x)).run P E.w = .ok (.string b) E.w := by rw [h5, hrun]
      have := hK E _ _ (.string b) hκ (Ext.refl E) hO (Nat.le_refl _) (by simp only [rel]) (fun hn => by cases hn)
      unfold Oper.wp execOp
      simp only [hrun2, Sem.run_bind, Sem.run_pure, Result.andThen_ok, Oper.upon]
      exact this
    · exact h.elim
  · rename_i t x t'
    have kx := opd_ok hs x
    split at h
    case h_2 => exact h.elim
    rename_i el _ _ _ sz n get ht hx
    obtain ⟨d1, hd1, hd1'⟩ := (hT.ty t _ ht).und
    simp only at hd1'
    subst hd1'
    rw [hx] at kx
    simp only [rel] at kx
    obtain ⟨ad, cap, hxe, _, _, hnil, _⟩ := kx
    have := hK E _ _ (.bool ad.isNone) (h ad.isNone (fun hb => hnil (by simpa using hb))) (Ext.refl E) hO (Nat.le_refl _) (by simp only [rel]) (fun hn => by cases hn)
    have hrun : (binOp .eql t (.slice ad n cap) (.slice none 0 0)).run P E.w = .ok (.bool ad.isNone) E.w := Lib.run_eql_slice_nil E.w _ _ ad n cap 0 0 hd1
    unfold Oper.wp execOp
    have e2 : a.eval (.const (.slice none 0 0)) = .slice none 0 0 := rfl
    simp only [e2, hxe, eqGuard_at_slice, hrun, Sem.run_bind, Sem.run_pure, Result.andThen_ok, Oper.upon]
    exact this
  · exact h.elim
set_option maxHeartbeats 1000000 in
theorem step_ok (hT : TabOk P tab) {Γ : Known} (hΓ : KnownOk P Γ) {call : CallH} (hcall : CallOk P call) {E : Env} {H : Heap} (hO : Ok H E) {s : Slots} {a : Act} (hs : SlotsOk E s a) {o : Oper} {κ : SV → Heap → Prop}
    (h : step std tab Γ call s H o κ) {K : Act → World → Prop} {Q' : Exit → Act → World → Prop}
    (hK : ∀ E' r H' u, κ r H' → Ext E E' → Ok H' E' → H.length ≤ H'.length → rel r E' u → (isNew o.op = true → Below E.w.heap.size E.w E'.w) → K (a.put o.dst u) E'.w) : o.wp P a E.w K Q' := by
  unfold step at h
  have ho := opd_ok hs
  split at h
  · rename_i hnil
    split at h
    case h_2 => exact h.elim
    rename_i el _ _ _ hti
    split at h
    case h_2 => exact h.elim
    rename_i ei hei
    obtain ⟨k1, k2⟩ := newRow_ok hO el ei.size (fun _ => [])
    have hop := isNilSlice_eq hnil
    have := hK (E.newRow H.length ei.size) _ _ (.slice none 0 0) h k1 k2 (by simp) (by simp only [rel]; exact ⟨by simp [Env.newRow], _, _, _, rfl⟩) (fun hn => by rw [hop] at hn; cases hn)
    unfold Oper.wp execOp
    simp only [hop, Act.eval, Sem.run_pure, Oper.upon]
    exact this
  rename_i hnn
  clear hnn
  split at h
  · rename_i r sc he
    obtain ⟨u, h1, h2⟩ := evalQ_ok hT hΓ hO hs he h.1
    refine Oper.wp_of_quiet (C := Below E.w.heap.size E.w) (K := fun a' => ∀ w', Below E.w.heap.size E.w w' → K a' w') (Below.refl _ _) (fun a' w' hw hk => hk w' hw) ⟨u, h2, fun w' hw => ?_⟩
    exact hK (E.grow w') r H u h.2 (ext_grow hw hO.flt) (ok_grow hw hO) (Nat.le_refl _) (rel_ext r (ext_grow hw hO.flt) u h1) (fun _ => hw)
  rename_i hev
  clear hev
  obtain ⟨dst, op, type, pos, after, guard⟩ := o
  simp only at h hK
  split at h
  · rename_i t x
    split at h
    case h_2 => exact h.elim
    rename_i ti hti
    split at h
    case isFalse => exact h.elim
    rename_i hone
    obtain ⟨k1, k2⟩ := cells_ok hone (ho x)
    obtain ⟨k3, k4⟩ := new_ok hO (us := (a.eval x).cells) (ty := t) k1
    have := hK _ _ _ (.pointer (some ⟨E.w.heap.size, 0, none⟩)) h k3 k4 (by simp) (by simp only [rel]; exact ⟨_, by simp [Env.new], rfl⟩) (fun _ => (Below.refl _ _).alloc (Nat.le_refl _) _)
    unfold Oper.wp execOp
    simp only [Instr.box, newVar, Go.newRow, newObj, Sem.run_bind, Sem.run_pure, Sem.run, Result.andThen_ok, Oper.upon]
    exact this
  · rename_i t
    split at h
    case h_2 => exact h.elim
    rename_i ti hti
    obtain ⟨it, hit, _, hz, _⟩ := (hT.ty t ti hti).info
    have hz0 : relL (zeroCells ti.zero) E ti.zero.cells.toList := by
      unfold zeroCells
      cases ti.zero with
      | agg c => exact relL_svs E _
      | _ => exact relL_cons (by simp only [rel]) (relL_nil E)
    obtain ⟨k3, k4⟩ := new_ok hO (us := ti.zero.cells) (ty := t) hz0
    have := hK _ _ _ (.pointer (some ⟨E.w.heap.size, 0, none⟩)) h k3 k4 (by simp) (by simp only [rel]; exact ⟨_, by simp [Env.new], rfl⟩) (fun _ => (Below.refl _ _).alloc (Nat.le_refl _) _)
    unfold Oper.wp execOp
    simp only [Instr.alloc, zeroValue, typeInfo, program, hit, hz, newVar, Go.newRow, newObj, Sem.run_bind, Sem.run_pure, Sem.run, Result.andThen_ok, Oper.upon]
    exact this
  · rename_i t x y
    split at h
    case h_3 => exact h.elim
    case h_2 =>
      rename_i ti hti _
      exact stE_ok hT hO hs hti h (pos := pos) (after := after) (guard := guard) (dst := dst) (type := type) fun E' r H' u h1 h2 h3 h4 h5 => hK E' r H' u h1 h2 h3 h4 h5 (fun hn => by cases hn)
    rename_i ti i off hti hx
    split at h
    case h_2 => exact h.elim
    rename_i cs ty hi
    split at h
    case isFalse => exact h.elim
    rename_i hc
    simp only [Bool.and_eq_true] at hc
    have hlen := Nat.eq_of_beq_eq_true hc.1.1
    have hle := Nat.le_of_ble_eq_true hc.2
    obtain ⟨k1, k2⟩ := cells_ok hc.1.2 (ho y)
    have hl1 := relL_length k1
    have kx := ho x
    rw [hx] at kx
    simp only [rel] at kx
    obtain ⟨b, hb, hxe⟩ := kx
    obtain ⟨k3, k4⟩ := store_ok hO hi hb (off := off) k1 (by omega)
    obtain ⟨it, hit, hits, _⟩ := (hT.ty t ti hti).info
    obtain ⟨b', us, h1, h2, h3, h4⟩ := hO.blocks i _ hi
    rw [hb] at h1; cases h1
    have hl4 := relL_length h4
    have hthere : E.w.there b off (a.eval y).cells.size := by
      intro j hj
      have hjl : off + j < us.length := by simp at hl1; omega
      refine ⟨by rw [cell_of_row E.w b (off + j) us.toArray ty (0, 0) h3]; simp [hjl], ?_⟩
      simp [World.frozen?, h3]
    have hrun := run_storeVar_mid (P := P) E.w b off t (a.eval y).cells hthere (by rw [hit]; simp at hl1; simp [hits]; omega) (by rw [Array.all_eq_true_iff_forall_mem]; exact fun c hcm => k2 c (by simpa using hcm))
    have hrun' : (storeVar t ⟨b, off, none⟩ (a.eval y)).run P E.w = .ok () (E.w.setCells b off (a.eval y).cells.toList) := by
      rw [← hrun]; rfl
    have := hK _ _ _ undef h k3 k4 (by simp) (rel_any _ _) (fun hn => by cases hn)
    unfold Oper.wp execOp
    simp only [Instr.storeAt, Instr.sureAddr, hxe, Sem.run_bind, Sem.run_pure, Result.andThen_ok, hrun', Oper.upon]
    exact this
  · rename_i t len parts
    split at h
    case h_2 => exact h.elim
    rename_i el _ _ _ hti
    split at h
    case h_2 => exact h.elim
    rename_i ei hei
    split at h
    case isTrue =>
      rename_i hz
      simp only [Bool.and_eq_true] at hz
      have e0 := Nat.eq_of_beq_eq_true hz.1
      have e1 : parts = #[] := by have := hz.2; simp at this; exact this
      subst e0 e1
      obtain ⟨d, hd, hd'⟩ := (hT.ty t _ hti).und
      simp only at hd'
      subst hd'
      obtain ⟨ie, hie, hies, hiz, _⟩ := (hT.ty el ei hei).info
      obtain ⟨E', k0, k1, k2, k3⟩ := newRow0_ok hO el ei.size (fun _ => [])
      have := hK E' _ _ _ h k1 k2 (by simp) k3 (fun _ => by rw [k0]; exact (Below.refl _ _).alloc (Nat.le_refl _) _)
      rw [k0] at this
      have hrun : (Instr.buildSlice t 0 #[]).run P E.w = .ok (.slice (some ⟨E.w.heap.size, 0, none⟩) 0 0) (E.w.alloc (.cells #[] el)) := by
        have e0 : (Array.map (fun x => (default : Value)) (Array.range 0)) = #[] := by simp
        simp [Instr.buildSlice, run_underlying hd, sizeOf, typeInfo, hie, Instr.fill, Go.newRow, newObj]
        rw [e0]
        rfl
      unfold Oper.wp execOp
      simp only [List.map_toArray, List.map_nil, hrun, Sem.run_bind, Sem.run_pure, Result.andThen_ok, Oper.upon]
      exact this
    split at h
    case h_2 => exact h.elim
    rename_i l hl
    split at h
    case h_2 => exact h.elim
    rename_i cs hcs
    split at h
    case isFalse => exact h.elim
    rename_i hc
    simp only [Bool.and_eq_true] at hc
    obtain ⟨⟨⟨hc1, hc2⟩, hc3⟩, hc4⟩ := hc
    have hc3' := Nat.le_of_ble_eq_true hc3
    have hc4' := Nat.blt_eq.mp hc4
    obtain ⟨d, hd, hd'⟩ := (hT.ty t _ hti).und
    simp only at hd'
    subst hd'
    obtain ⟨ie, hie, hies, hiz, _⟩ := (hT.ty el ei hei).info
    have hzs := (hT.ty el ei hei).zsz
    have hz0 : relL (zeroCells ei.zero) E ei.zero.cells.toList := by
      unfold zeroCells
      cases ei.zero with
      | agg c => exact relL_svs E _
      | _ => exact relL_cons (by simp only [rel]) (relL_nil E)
    have hinit : relL (reps (zeroCells ei.zero) len) E ((Array.range (len * ie.size)).map (ei.zero.cells[· % ei.zero.cells.size]!)).toList := by
      rw [hies, ← hzs, range_map_eq]
      exact relL_reps hz0 len
    obtain ⟨us, f1, f2⟩ := fillS_ok hs ei.size parts.toList l _ cs _ hl hcs hinit
    have hrun := run_buildSlice (P := P) E.w t el len (parts.map fun (i, x) => (i, a.eval x)) us ie ei.zero hd hie hiz (by rw [hies]; omega) (by rw [hies]; omega)
      (by rw [hies, Array.toList_map]; rw [hies] at f1; simpa using f1)
    have hB : Below E.w.heap.size E.w (E.w.alloc (.cells us el)) := (Below.refl _ _).alloc (Nat.le_refl _) _
    have hus : us.toList.length = len * ei.size := by
      have h1 := relL_length f2
      have h2 := relL_length hinit
      have hfl : ∀ (l : List (Nat × List SV)) (cs cs' : List SV), fillC cs l = some cs' → cs'.length = cs.length := by
        intro l
        induction l with
        | nil => intro cs cs' h; simp only [fillC, Option.some.injEq] at h; rw [h]
        | cons q l ih =>
          intro cs cs' h
          obtain ⟨off, xs⟩ := q
          simp only [fillC] at h
          split at h
          case isFalse => cases h
          rename_i hle
          have := Nat.le_of_ble_eq_true hle
          rw [ih _ _ h]
          simp only [setAt, List.length_append, List.length_take, List.length_drop]
          omega
      have h3 := hfl _ _ _ hcs
      rw [h3, h2] at h1
      rw [← h1]
      simp [hies]
    have hrel : rel (.rs ei.size len (chunk cs ei.size)) (E.grow (E.w.alloc (.cells us el))) (.slice (some ⟨E.w.heap.size, 0, none⟩) len len) := by
      simp only [rel]
      have hpos : 0 < ei.size := by
        rcases Nat.eq_zero_or_pos ei.size with e | e
        · rw [e] at hc4'; omega
        · exact e
      have hlm : len ≤ maxLen := by
        have : len * 1 ≤ len * ei.size := Nat.mul_le_mul_left len hpos
        unfold maxLen; omega
      refine ⟨_, _, rfl, Nat.le_refl _, hlm, by simp, fun j hj => ⟨E.w.heap.size, 0, (us.toList.drop (j * ei.size)).take ei.size, rfl, ⟨?_, ?_⟩, ?_, ?_, ?_, ?_⟩⟩
      · show _ < (E.w.alloc _).heap.size; rw [alloc_size]; omega
      · intro ht; have := hO.tlt _ ht; omega
      · exact relL_ext _ (ext_grow hB hO.flt).pl _ (relL_plain (by
          unfold chunk
          have : ∀ (l : List SV), scopeL 0 l = true → ∀ n, scopeL 0 (l.drop n) = true := by
            intro l
            induction l with
            | nil => intro _ n; simp [scopeL]
            | cons x l ih => intro h n; cases n with
              | zero => exact h
              | succ n => simp only [scopeL, Bool.and_eq_true] at h; exact ih h.2 n
          have h2 : ∀ (l : List SV), scopeL 0 l = true → ∀ n, scopeL 0 (l.take n) = true := by
            intro l
            induction l with
            | nil => intro _ n; simp [scopeL]
            | cons x l ih => intro h n; cases n with
              | zero => simp [scopeL]
              | succ n => simp only [scopeL, Bool.and_eq_true, List.take_succ_cons] at h ⊢; exact ⟨h.1, ih h.2 n⟩
          exact h2 _ (this cs hc1 _) _) (relL_sub f2 _ _))
      · have := Nat.mul_le_mul_right ei.size (show j + 1 ≤ len from hj)
        rw [Nat.add_mul, Nat.one_mul] at this
        simp only [List.length_take, List.length_drop]; omega
      · rw [Nat.zero_add]
        exact reads_cells (us := us.toList) (ty := el) (fr := (0, 0)) (alloc_new E.w (.cells us el))
      · intro u hu
        have := cells_one hc2 f2
        exact this u (List.mem_of_mem_drop (List.mem_of_mem_take hu))
    have := hK (E.grow (E.w.alloc (.cells us el))) _ _ _ h (ext_grow hB hO.flt) (ok_grow hB hO) (Nat.le_refl _) hrel (fun _ => hB)
    unfold Oper.wp execOp
    simp only [Sem.run_bind, hrun, Sem.run_pure, Result.andThen_ok, Oper.upon]
    exact this
  · rename_i args ats
    split at h
    case h_3 => exact h.elim
    case h_2 =>
      rename_i r ver b t1 t2 hargs hats
      split at h
      case h_2 => exact h.elim
      rename_i ty sz n get ver' el _ _ _ _ _ _ hH hti1 hti2
      split at h
      case h_2 => exact h.elim
      rename_i s8 z8 by_ hti
      split at h
      case isFalse => exact h.elim
      rename_i hc
      simp only [Bool.and_eq_true, decide_eq_true_eq] at hc
      obtain ⟨⟨⟨⟨hc1, hc2⟩, hc3⟩, hc4⟩, rfl⟩ := hc
      have e4 := Nat.eq_of_beq_eq_true hc4
      subst e4
      have e1 := Nat.eq_of_beq_eq_true hc1
      have e2 := Nat.eq_of_beq_eq_true hc2
      have e3 := Nat.eq_of_beq_eq_true hc3
      subst e1 e2 e3
      obtain ⟨heq, hroom, hκ⟩ := h
      simp only [std] at heq hκ hroom
      subst heq
      have k1 := opds_ok hs args.toList
      rw [hargs] at k1
      simp only [relL, rel] at k1
      obtain ⟨u1, us1, hus, hr1, u2, us2, rfl, rfl, rfl⟩ := k1
      obtain ⟨d, hd, hd'⟩ := (hT.ty _ _ hti1).und
      simp only at hd'
      subst hd'
      obtain ⟨d2, hd2, hd2'⟩ := (hT.ty _ _ hti2).und
      simp only at hd2'
      subst hd2'
      obtain ⟨v', E', q1, q2, q3, q4⟩ := appendS_ok hT hO hH hr1 hti hroom hd hd2 type
      have hm : args.map a.eval = #[u1, .string b] := by apply Array.toList_inj.1; rw [Array.toList_map]; exact hus
      have hat : ats = #[t1, t2] := by apply Array.toList_inj.1; exact hats
      have := hK E' _ _ v' hκ q2 q3 (by simp) q4 (fun hn => by cases hn)
      unfold Oper.wp execOp
      simp only [resolve, Sem.run_bind, Sem.run_pure, Result.andThen_ok, invoke, builtin, hm, hat, q1, Oper.upon]
      exact this
    rename_i r ver sz' m get' t1 t2 hargs hats
    split at h
    case h_2 => exact h.elim
    rename_i ty sz n get ver' el _ _ _ hH hti1
    split at h
    case h_2 => exact h.elim
    rename_i ti hti
    split at h
    case isFalse => exact h.elim
    rename_i hc
    simp only [Bool.and_eq_true] at hc
    obtain ⟨⟨⟨⟨hc1, hc2⟩, hc3⟩, hc4⟩, hc5⟩ := hc
    have e1 := Nat.eq_of_beq_eq_true hc1
    have e2 := Nat.blt_eq.mp hc2
    have e3 := Nat.eq_of_beq_eq_true hc3
    have e4 := Nat.eq_of_beq_eq_true hc4
    have e5 := Nat.eq_of_beq_eq_true hc5
    subst e1 e3 e4
    obtain ⟨heq, hroom, hκ⟩ := h
    simp only [std] at heq hκ
    subst heq
    have k1 := opds_ok hs args.toList
    rw [hargs] at k1
    simp only [relL] at k1
    obtain ⟨u1, us1, hus, hr1, u2, us2, rfl, hr2, rfl⟩ := k1
    obtain ⟨d, hd, hd'⟩ := (hT.ty _ _ hti1).und
    simp only at hd'
    subst hd'
    obtain ⟨v', E', q1, q2, q3, q4⟩ := append_ok hT hO hH hr1 hr2 e2 hti e5 hroom hd type
    have hm : args.map a.eval = #[u1, u2] := by apply Array.toList_inj.1; rw [Array.toList_map]; exact hus
    have hat : ats = #[t1, t1] := by apply Array.toList_inj.1; exact hats
    have := hK E' _ _ v' hκ q2 q3 (by simp) q4 (fun hn => by cases hn)
    unfold Oper.wp execOp
    simp only [resolve, Sem.run_bind, Sem.run_pure, Result.andThen_ok, invoke, builtin, hm, hat, q1, Oper.upon]
    exact this
  · rename_i f args ats
    split at h
    case h_2 => exact h.elim
    rename_i g fs cs hf
    have kf := ho f
    rw [hf] at kf
    simp only [rel] at kf
    obtain ⟨us, ws, he, hus, hws⟩ := kf
    obtain ⟨hcb, hc⟩ := hcall g _ H κ h
    have hrel := relL_append (relL_append hus (opds_ok hs args.toList)) hws
    have := hc E _ hO hrel
    have hrun : (execOp a.eval { dst, op := .call { callee := .value f, args, argTypes := ats }, type, pos, after, guard }).run P E.w = .ok (.enter g (us ++ args.toList.map a.eval ++ ws).toArray) E.w := by
      have e1 : (us.toArray ++ args.map a.eval ++ ws.toArray : Array Value) = (us ++ args.toList.map a.eval ++ ws).toArray := by apply Array.toList_inj.1; simp
      simp only [execOp, resolve, he, Deferred.ofValue, Sem.run_bind, Sem.run_pure, Result.andThen_ok, invoke]
      rw [e1]
      exact run_callFunc hcb _ _
    unfold Oper.wp
    rw [hrun, Oper.upon_enter]
    refine this.mono fun e w' hq => ?_
    obtain ⟨u, E', r, H', rfl, rfl, q1, q2, q3, q4, q5⟩ := hq
    exact hK E' r H' u q5 q1 q2 q3 q4 (fun hn => by cases hn)
  · exact stepX_ok hT hO hs h (pos := pos) (after := after) (guard := guard) (dst := dst) (type := type) hK
/-- What holds of an activation and a world, seen from the function's beginning. -/
structure St (E0 : Env) (N0 nt : Nat) (s : Slots) (H : Heap) (a : Act) (w : World) : Prop where
  ex : ∃ E, E.w = w ∧ Ext E0 E ∧ Ok H E ∧ SlotsOk E s a
  size : a.tmps.size = nt
  defers : a.defers = []
  len : N0 ≤ H.length

theorem wpList_of_quiet {ops : Array Oper} {C : World → Prop} {Qs : Act → Prop} {Q' : Exit → Act → World → Prop} {rest : List Oper} : ∀ (l : List Oper) (a : Act) (w : World), C w → wpQuiet P ops C Qs l a →
    (∀ a' w', C w' → Qs a' → wpList P ops Q' rest a' w') → wpList P ops Q' (l ++ rest) a w
  | [], a, w, hw, h, k => k a w hw h
  | o :: l, a, w, hw, h, k => by
    show wpList P ops Q' (o :: (l ++ rest)) a w
    unfold wpQuiet at h
    unfold wpList
    split
    · rename_i hwt
      rw [if_pos hwt] at h
      exact .inl (Oper.wp_of_quiet hw (fun a' w' hw' hh => wpList_of_quiet l a' w' hw' hh k) h)
    · rename_i hwt
      rw [if_neg hwt] at h
      exact wpList_of_quiet l _ w hw h k

theorem skip_list {ops : Array Oper} {Q' : Exit → Act → World → Prop} {j : Nat} {w c : Bool} (hcw : c ≠ w) (hd : hasDst ops.toList j = true) {known : List (Nat × Bool)} {rest : List Oper}
    {g : List Oper} {a : Act} {w0 : World} (hg : inGroup ops.toList j w (dstOf ops.toList j) [] g = true) (hf : freeAll ops.toList known g = true) (hk : KnownG ops known a) (hc : a.tmps[dstOf ops.toList j]? = some (.bool c))
    (h : ∀ a', KnownG ops known a' → a'.tmps[dstOf ops.toList j]? = some (.bool c) → (∀ t, t ∉ dsts g → a'.tmps.getD t undef = a.tmps.getD t undef) → a'.tmps.size = a.tmps.size → a'.defers = a.defers → wpList P ops Q' rest a' w0) : wpList P ops Q' (g ++ rest) a w0 := by
  have := skip_ok (P := P) (C := fun w' => w' = w0) (rest := []) (Q := fun a' => KnownG ops known a' ∧ a'.tmps[dstOf ops.toList j]? = some (.bool c) ∧ (∀ t, t ∉ dsts g → a'.tmps.getD t undef = a.tmps.getD t undef) ∧ a'.tmps.size = a.tmps.size ∧ a'.defers = a.defers) hcw hd g [] a hg hf hk hc (by simp)
    (fun a' h1 h2 h3 h4 h5 => wpQuiet_nil ⟨h1, h2, h3, h4, h5⟩)
  rw [List.append_nil] at this
  refine wpList_of_quiet (C := fun w' => w' = w0) g a w0 rfl this ?_
  rintro a' w' rfl ⟨h1, h2, h3, h4, h5⟩
  exact h a' h1 h2 h3 h4 h5

theorem pick_wp {o : Oper} {a : Act} {w0 : World} {c : Bool} {t : Nat} {x y : Operand} {K : Act → World → Prop} {Q' : Exit → Act → World → Prop} (ho : o.op = .pick (.tmp t) x y) (hc : a.tmps[t]? = some (.bool c))
    (h : K (a.put o.dst (if c then a.eval x else a.eval y)) w0) : o.wp P a w0 K Q' := by
  have he : a.eval (.tmp t) = .bool c := by simp [Act.eval, Array.getD_eq_getD_getElem?, hc]
  unfold Oper.wp execOp
  simp only [ho, he, asBool, Sem.run_bind, Sem.run_pure, Result.andThen_ok, Oper.upon]
  exact h

theorem runOps_ok (hT : TabOk P tab) {Γ : Known} (hΓ : KnownOk P Γ) {call : CallH} (hcall : CallOk P call) {E0 : Env} {N0 nt : Nat} {ops : Array Oper} {Q' : Exit → Act → World → Prop} : ∀ (n : Nat) (known : List (Nat × Bool)) (l rest : List Oper) (κ : Slots → Heap → Prop) (s : Slots) (H : Heap) (a : Act) (w : World),
    (∀ s H a w, κ s H → St E0 N0 nt s H a w → KnownG ops known a → wpList P ops Q' rest a w) →
    runOps std tab Γ call nt ops.toList n known l s H κ → St E0 N0 nt s H a w → KnownG ops known a → wpList P ops Q' (l ++ rest) a w
  | 0, _, _, _, _, _, _, _, _, _, h, _, _ => by simp [runOps] at h
  | n + 1, known, [], _, κ, s, H, a, w, hQ, h, k, hkn => hQ s H a w (by simpa [runOps] using h) k hkn
  | n + 1, known, o :: l, rest, κ, s, H, a, w, hQ, h, k, hkn => by
    obtain ⟨⟨E, rfl, hx, hO, hs⟩, hn, hd, hl⟩ := k
    unfold runOps at h
    split at h
    · rename_i hkg
      split at h
      case isFalse => exact h.elim
      rename_i hdst
      simp only [Bool.and_eq_true] at hdst
      show wpList P ops Q' (o :: (l ++ rest)) a E.w
      unfold wpList
      rw [if_pos (wanted_known hkn hkg)]
      refine .inl (step_ok hT hΓ hcall hO hs h (fun E' r H' u hκ hx' hO' hlen hr _ => ?_))
      exact runOps_ok hT hΓ hcall n known l rest κ _ H' _ _ hQ hκ ⟨⟨E', rfl, hx.trans hx', hO', (hs.ext hx').put hr hn hdst.1⟩, (put_size _ _ _).trans hn, (put_defers _ _ _).trans hd, Nat.le_trans hl hlen⟩ (hkn.put hdst.2 u)
    · split at h
      case h_1 => exact h.elim
      rename_i j w' hg
      split at h
      case h_2 => exact h.elim
      rename_i g p rest' hsp
      have heq := splitPick_eq (dstOf ops.toList j) (o :: l)
      rw [hsp] at heq
      simp only at heq
      split at h
      · rename_i s' sc hr
        have heq' : (o :: l) ++ rest = (g ++ [p]) ++ (rest' ++ rest) := by rw [← heq]; simp
        rw [heq']
        have hq := runG_ok (Q := fun a' => SlotsOk E s' a' ∧ a'.tmps.size = nt ∧ a'.defers = [] ∧ KnownG ops known a') hT hΓ hO n known s (g ++ [p]) [] s' sc a hr h.1 hs hn hkn
          (fun a' h1 h2 h3 h4 => wpQuiet_nil ⟨h1, h2, h3.trans hd, h4⟩)
        rw [List.append_nil] at hq
        refine wpList_of_quiet (g ++ [p]) a E.w (Below.refl _ _) hq (fun a' w2 hw2 hh => ?_)
        exact runOps_ok hT hΓ hcall n known rest' rest κ s' H a' w2 hQ h.2 ⟨⟨E.grow w2, rfl, hx.trans (ext_grow hw2 hO.flt), ok_grow hw2 hO, hh.1.ext (ext_grow hw2 hO.flt)⟩, hh.2.1, hh.2.2.1, hl⟩ hh.2.2.2
      · split at h
        case h_2 => exact h.elim
        rename_i c cc x y hlk hop
        split at h
        case h_2 => exact h.elim
        rename_i hb
        simp only [Bool.and_eq_true] at hb
        obtain ⟨⟨⟨⟨⟨hb1, hb2⟩, hb3⟩, hb4⟩, hb5⟩, hb6⟩ := hb
        obtain ⟨x', y', hop'⟩ := splitPick_head (dstOf ops.toList j) (o :: l) p rest' (by rw [hsp])
        rw [hop'] at hop
        simp only [Op.pick.injEq] at hop
        obtain ⟨_, rfl, rfl⟩ := hop
        have hslot : a.tmps[dstOf ops.toList j]? = some (.bool c) := by
          have := hs (dstOf ops.toList j)
          rw [hlk] at this
          simp only [rel, Array.getD_eq_getD_getElem?] at this
          cases ht : a.tmps[dstOf ops.toList j]? with
          | none => rw [ht] at this; simp [undef] at this
          | some u => rw [ht] at this; simpa using this
        have heq' : (o :: l) ++ rest = g ++ (p :: (rest' ++ rest)) := by rw [← heq]; simp
        rw [heq']
        have hon : (c = w' → runOps std tab Γ call nt ops.toList n ((j, w') :: known) g s H fun s' H' => runOps std tab Γ call nt ops.toList n known rest' (putS p.dst (opd s' (ofBool w' x' y')) s') H' κ) ∧
            (c ≠ w' → runOps std tab Γ call nt ops.toList n known rest' (putS p.dst (opd (anyS s g) (ofBool w' y' x')) (anyS s g)) H κ) := by
          unfold onBool at h
          split at h
          · refine ⟨h.1, fun hc => h.2 ?_⟩
            cases c <;> cases w' <;> simp_all
          · cases c <;> cases w' <;> simp only [Bool.false_eq_true, Bool.true_eq_false, false_implies, true_and, and_true, ne_eq, not_true, not_false_eq_true, forall_const, reduceCtorEq] at h ⊢ <;> first | exact h | exact ⟨h, fun hh => absurd rfl hh⟩ | exact ⟨fun hh => by cases hh, h⟩ | exact ⟨fun hh => by cases hh, fun _ => h⟩
        by_cases hcw : c = w'
        · subst hcw
          have hk' : KnownG ops ((j, c) :: known) a := by
            intro i v hm
            cases hm with
            | head => exact ⟨hb4, hslot⟩
            | tail _ hm => exact hkn i v hm
          refine runOps_ok hT hΓ hcall n ((j, c) :: known) g (p :: (rest' ++ rest)) _ s H a E.w ?_ (hon.1 rfl) ⟨⟨E, rfl, hx, hO, hs⟩, hn, hd, hl⟩ hk'
          intro s1 H1 a1 w1 hκ1 hst1 hk1
          obtain ⟨⟨E1, rfl, hx1, hO1, hs1⟩, hn1, hd1, hl1⟩ := hst1
          have hkn1 : KnownG ops known a1 := fun i v hm => hk1 i v (List.mem_cons_of_mem _ hm)
          unfold wpList
          rw [if_pos (wanted_known hkn1 hb2)]
          refine .inl (pick_wp hop' (hk1 j c List.mem_cons_self).2 ?_)
          refine runOps_ok hT hΓ hcall n known rest' rest κ _ H1 _ _ hQ hκ1 ⟨⟨E1, rfl, hx1, hO1, hs1.put ?_ hn1 hb3⟩, (put_size _ _ _).trans hn1, (put_defers _ _ _).trans hd1, hl1⟩ (hkn1.put hb6 _)
          cases c
          · exact opd_ok hs1 y'
          · exact opd_ok hs1 x'
        · refine skip_list hcw hb4 hb1 hb5 hkn hslot (fun a1 k1 k2 k3 k4 k5 => ?_)
          have hs1 := slots_any hs k3 (s' := s)
          unfold wpList
          rw [if_pos (wanted_known k1 hb2)]
          refine .inl (pick_wp hop' k2 ?_)
          refine runOps_ok hT hΓ hcall n known rest' rest κ _ H _ _ hQ (hon.2 hcw) ⟨⟨E, rfl, hx, hO, hs1.put ?_ (k4.trans hn) hb3⟩, (put_size _ _ _).trans (k4.trans hn), (put_defers _ _ _).trans (k5.trans hd), hl⟩ (k1.put hb6 _)
          cases w' with
          | true =>
            have hc : c = false := by cases c <;> simp_all
            subst hc
            exact opd_ok hs1 y'
          | false =>
            have hc : c = true := by cases c <;> simp_all
            subst hc
            exact opd_ok hs1 x'
end Go.Sx
