/- Each operation that only looks comes to what the runner says of it: addresses, fields, elements, cells, lengths. -/
import Derived.Test.YtijnahgehahokaaSxSoundA
set_option linter.unusedVariables false
set_option linter.unusedSimpArgs false
namespace Go.Sx
open Go.RowKit
variable {P : Program} {tab : Tab}

theorem ans_some {x : Option SV} {sc sc' : Prop} {r : SV} (h : ans x sc = some (r, sc')) : x = some r ∧ sc = sc' := by
  unfold ans at h
  cases x with
  | none => cases h
  | some y => simp only [Option.some.injEq, Prod.mk.injEq] at h; exact ⟨by rw [h.1], h.2⟩

theorem load_of {E : Env} {ti : TI} {t : TypeId} (ht : TIok P t ti) {b o : Nat} {cs : List SV} {us : List Value} {r : SV} {F : Env} (hc : relL cs F us) (hn : us.length = ti.size) (hf : ofCells (rowTD ti.td) cs = some r)
    (hlt : b < E.w.heap.size) (hr : readsAt E.w b o us) : rel r F (cellVal (rowTD ti.td) us) ∧ ∀ w', Below E.w.heap.size E.w w' → (Instr.loadAt t (.pointer (some ⟨b, o, none⟩))).run P w' = .ok (cellVal (rowTD ti.td) us) w' := by
  obtain ⟨h1, h2⟩ := ofCells_ok hc hf
  refine ⟨h1, fun w' hB => ?_⟩
  obtain ⟨d, hd, hrow⟩ := und_row ht
  obtain ⟨i, hi, hsz, _⟩ := ht.info
  rw [← hrow]
  have := run_loadVar_cells (P := P) (w := w') (b := b) (o := o) (t := t) (d := d) (us := us) (readsAt_ext (hB.block b hlt) hr) hd (by rw [hi]; simp [hsz, hn]) (by rw [hrow]; exact h2)
  simp only [Instr.loadAt, Instr.sureAddr, Sem.run_bind, Sem.run_pure, Result.andThen_ok]
  exact this

theorem ints_ok : ∀ {l : List SV} {k : IntKind} {xs : List Int}, ints l = some (k, xs) → l = xs.map fun x => .v (.int k x)
  | [], _, _, h => by simp [ints] at h
  | x :: r, k, xs, h => by
    unfold ints at h
    split at h
    · cases h
    · rename_i k' x' heq
      simp only [Option.some.injEq, Prod.mk.injEq] at h
      obtain ⟨rfl, rfl⟩ := h
      simpa using heq
    · rename_i k' x' r' _ heq
      simp only [List.cons.injEq] at heq
      obtain ⟨rfl, rfl⟩ := heq
      split at h
      · rename_i k2 xs2 hi
        split at h
        · rename_i hk
          simp only [Option.some.injEq, Prod.mk.injEq] at h
          obtain ⟨rfl, rfl⟩ := h
          obtain rfl := sameK_eq hk
          rw [List.map_cons, ← ints_ok hi]
        · cases h
      · cases h
    · cases h
theorem column_get (cs : List SV) (sz foff : Nat) : ∀ (n off k : Nat), k < n → (column cs off sz foff n)[k]? = some (((cs.drop (off + k * sz + foff)).headD .any))
  | 0, _, _, h => by omega
  | n + 1, off, 0, _ => by simp [column]
  | n + 1, off, k + 1, h => by
    simp only [column, List.getElem?_cons_succ]
    rw [column_get cs sz foff n (off + sz) k (by omega)]
    congr 3
    rw [Nat.add_mul]; omega
theorem column_length (cs : List SV) (sz foff : Nat) : ∀ (n off : Nat), (column cs off sz foff n).length = n
  | 0, _ => rfl
  | n + 1, off => by simp [column, column_length cs sz foff n (off + sz)]

theorem evLoad_ok (hT : TabOk P tab) {E : Env} {H : Heap} (hO : Ok H E) {t : TypeId} {x r : SV} {u : Value} {sc : Prop} (hx : rel x E u) (h : evLoad std tab H t x = some (r, sc)) (hsc : sc) :
    ∃ v, rel r E v ∧ ∀ w', Below E.w.heap.size E.w w' → (Instr.loadAt t u).run P w' = .ok v w' := by
  unfold evLoad at h
  split at h
  case h_2 => cases h
  rename_i ti hti
  have ht := hT.ty t ti hti
  split at h
  · -- a tracked block
    rename_i i off
    simp only [rel] at hx
    obtain ⟨b, hb, rfl⟩ := hx
    split at h
    case h_2 => cases h
    rename_i cs ty hi
    obtain ⟨b', us, h1, h2, h3, h4⟩ := hO.blocks i _ hi
    rw [hb] at h1; cases h1
    split at h
    case isFalse => cases h
    rename_i hle
    have hle' := Nat.le_of_ble_eq_true hle
    obtain ⟨hf, _⟩ := ans_some h
    have hlen := relL_length h4
    obtain ⟨k1, k2⟩ := load_of (E := E) ht (relL_sub h4 off ti.size) (by simp only [List.length_take, List.length_drop]; omega) hf (hO.tlt b h2) (reads_cells h3)
    exact ⟨_, k1, k2⟩
  · rename_i cs
    simp only [rel] at hx
    obtain ⟨b, off, us, rfl, hst, hc, hr⟩ := hx
    split at h
    case isFalse => cases h
    rename_i hle
    have hle' := Nat.le_of_ble_eq_true hle
    obtain ⟨hf, _⟩ := ans_some h
    have hlen := relL_length hc
    obtain ⟨k1, k2⟩ := load_of (E := E) ht (relL_take ti.size hc) (by simp only [List.length_take]; omega) hf hst.1 (by have := readsAt_sub hr 0 ti.size; simpa using this)
    exact ⟨_, rel_ext r (ext_pl E) _ k1, k2⟩
  · rename_i i ver j off
    simp only [rel] at hx
    obtain ⟨b, o, n', c, sz', hs, hsz, rfl⟩ := hx
    split at h
    case h_2 => cases h
    rename_i ty sz n get ver' hi
    split at h
    case isFalse => cases h
    rename_i hle
    have hle' := Nat.le_of_ble_eq_true hle
    obtain ⟨hf, rfl⟩ := ans_some h
    simp only [std] at hsc
    obtain ⟨rfl, hj⟩ := hsc
    obtain ⟨us, h1, h2, h3, h4, h5⟩ := row_reads (hO.blocks i _ hi) hs j (by omega)
    rw [h4] at hsz; cases hsz
    obtain ⟨k1, k2⟩ := load_of (E := E) (b := b) (o := o + (j * sz' + off)) ht (relL_sub h1 off ti.size) (by simp only [List.length_take, List.length_drop]; omega) hf (hO.tlt b h3)
      (by have := readsAt_sub h2 off ti.size; rwa [Nat.add_assoc] at this)
    exact ⟨_, rel_ext r (ext_pl E) _ k1, k2⟩
  · rename_i i off esz foff ix
    simp only [rel] at hx
    obtain ⟨b, hb, rfl⟩ := hx
    split at h
    case h_2 => cases h
    rename_i cs ty hagg hi
    split at h
    case h_2 => cases h
    rename_i k xs hints
    simp only [Option.some.injEq, Prod.mk.injEq] at h
    obtain ⟨rfl, rfl⟩ := h
    simp only [std] at hsc
    obtain ⟨b', us, h1, h2, h3, h4⟩ := hO.blocks i _ hi
    rw [hb] at h1; cases h1
    have hcol := ints_ok hints
    have hlenc := congrArg List.length hcol
    rw [column_length, List.length_map] at hlenc
    have hlt : ix.toNat < xs.length := by omega
    have hget := column_get cs esz foff ((cs.length - off) / esz) off ix.toNat (by omega)
    rw [hcol, List.getElem?_map, List.getElem?_eq_getElem hlt] at hget
    simp only [Option.map_some, Option.some.injEq] at hget
    -- the cell is there
    have hcell : cs[off + ix.toNat * esz + foff]? = some (.v (.int k xs[ix.toNat])) := by
      cases hd : cs.drop (off + ix.toNat * esz + foff) with
      | nil => rw [hd] at hget; cases hget
      | cons y ys =>
        rw [hd] at hget
        have : (cs.drop (off + ix.toNat * esz + foff))[0]? = some y := by rw [hd]; rfl
        rw [List.getElem?_drop, Nat.add_zero] at this
        rw [this, hget]; rfl
    obtain ⟨u', hu', hru⟩ := relL_get h4 _ _ hcell
    simp only [rel] at hru
    subst hru
    have hv : (std.sel xs ix) = xs[ix.toNat] := by simp [std, List.getD_eq_getElem?_getD, hlt]
    rw [hv]
    refine ⟨.int k xs[ix.toNat], by simp only [rel], fun w' hB => ?_⟩
    obtain ⟨d, hd, hrow⟩ := und_row ht
    rw [hagg] at hrow
    have hc : w'.cell? ⟨b, off + ix.toNat * esz + foff, none⟩ = some (.int k xs[ix.toNat]) := by
      have hh : w'.heap[b]? = some (.cells us.toArray ty (0, 0)) := (hB.block b (hO.tlt b h2)).trans h3
      rw [cell_of_row w' b _ us.toArray ty (0, 0) hh]
      simpa using hu'
    have hagg' : (Go.isAgg t).run P w' = .ok false w' := by
      unfold Go.isAgg
      rw [Sem.run_bind, run_underlying hd w']
      cases d <;> simp_all
    simp only [Instr.loadAt, Instr.sureAddr, Sem.run_bind, Sem.run_pure, Result.andThen_ok, loadVar, hagg', Bool.false_eq_true, if_false, load, Sem.run, hc]
  · cases h
theorem evFieldAddr_ok (hT : TabOk P tab) {E : Env} {st : TypeId} {x r : SV} {u : Value} {f : Nat} {sc : Prop} (hx : rel x E u) (h : evFieldAddr tab st x f = some (r, sc)) :
    ∃ v, rel r E v ∧ ∀ w', (Instr.fieldAt st u f).run P w' = .ok v w' := by
  unfold evFieldAddr at h
  split at h
  case h_2 => cases h
  rename_i fs size z by_ hti
  obtain ⟨d, hd, flds, rfl, _, hf⟩ := (hT.ty st _ hti).und
  split at h
  case h_2 => cases h
  rename_i off sz ag hfs
  split at h
  case isTrue => cases h
  rename_i hsz
  obtain ⟨fl, fi, fd, h1, h2, h3, h4, h5, h6⟩ := hf f off sz ag hfs
  have hsz' : ¬ fi.size = 0 := by rw [h4]; intro e; exact hsz (by rw [e]; rfl)
  have key : ∀ (b o : Nat) w', (Instr.fieldAt st (.pointer (some ⟨b, o, none⟩)) f).run P w' = .ok (.pointer (some ⟨b, o + off, none⟩)) w' := fun b o w' => by
    simp [Instr.fieldAt, run_underlying hd, h1, Instr.sureAddr, fieldPlace, sizeOf, typeInfo, h3, hsz', h2, Addr.add_mid]
  split at h <;> (try (cases h; done)) <;> simp only [Option.some.injEq, Prod.mk.injEq] at h <;> obtain ⟨rfl, rfl⟩ := h <;> simp only [rel] at hx ⊢
  · obtain ⟨b, hb, rfl⟩ := hx
    exact ⟨_, ⟨b, hb, rfl⟩, key b _⟩
  · obtain ⟨b, o, us, rfl, hs, hc, hr⟩ := hx
    exact ⟨_, ⟨b, o + off, us.drop off, rfl, hs, relL_drop off hc, readsAt_drop hr off⟩, key b o⟩
  · obtain ⟨b, o, n, c, sz', h7, h8, rfl⟩ := hx
    exact ⟨_, ⟨b, o, n, c, sz', h7, h8, rfl⟩, fun w' => by rw [key]; simp only [Nat.add_assoc]⟩
  · obtain ⟨b, hb, rfl⟩ := hx
    exact ⟨_, ⟨b, hb, rfl⟩, fun w' => by rw [key]; simp only [Nat.add_assoc]⟩

theorem evField_ok (hT : TabOk P tab) {E : Env} {st : TypeId} {x r : SV} {u : Value} {f : Nat} {sc : Prop} (hx : rel x E u) (h : evField tab st x f = some (r, sc)) :
    ∃ v, rel r E v ∧ ∀ w', (Instr.field st u f).run P w' = .ok v w' := by
  unfold evField at h
  split at h
  case h_2 => cases h
  rename_i fs size z by_ hti
  obtain ⟨d, hd, flds, rfl, _, hf⟩ := (hT.ty st _ hti).und
  split at h
  case h_2 => cases h
  rename_i off sz ag cs hfs
  split at h
  case isTrue => cases h
  rename_i hsz
  split at h
  case isFalse => cases h
  rename_i hle
  have hle' := Nat.le_of_ble_eq_true hle
  obtain ⟨fl, fi, fd, h1, h2, h3, h4, h5, h6⟩ := hf f off sz ag hfs
  obtain ⟨hoc, _⟩ := ans_some h
  simp only [rel] at hx
  obtain ⟨us, rfl, hc⟩ := hx
  have hlen := relL_length hc
  obtain ⟨k1, k2⟩ := ofCells_ok (relL_sub hc off sz) hoc
  refine ⟨_, k1, fun w' => ?_⟩
  have hagg : ∀ w', (Go.isAgg fl.type).run P w' = .ok ag w' := fun w' => by
    unfold Go.isAgg
    rw [Sem.run_bind, run_underlying h5 w']
    rw [← h6]
    cases fd <;> rfl
  cases ag with
  | true =>
    simp only [Instr.field, Sem.run_bind, run_underlying hd, Result.andThen_ok, h1, asAgg, Sem.run_pure, part, hagg, if_true, sizeOf, typeInfo, program, Sem.run, h3, cellVal]
    simp [h2, h4]
  | false =>
    have hl := k2 rfl
    simp only [List.length_take, List.length_drop] at hl
    have hlt : off < us.length := by omega
    simp only [Instr.field, Sem.run_bind, run_underlying hd, Result.andThen_ok, h1, asAgg, Sem.run_pure, part, hagg, Bool.false_eq_true, if_false, cellVal]
    have h9 : us.toArray[fl.offset]? = some (us[off]'hlt) := by rw [h2]; simp [hlt]
    rw [h9]
    simp only [Sem.run_pure]
    congr 1
    cases hdr : us.drop off with
    | nil => rw [List.drop_eq_nil_iff] at hdr; omega
    | cons y ys =>
      have : (us.drop off)[0]? = some y := by rw [hdr]; rfl
      rw [List.getElem?_drop, Nat.add_zero, List.getElem?_eq_getElem hlt] at this
      simp only [Option.some.injEq] at this
      have hsz1 : sz ≠ 0 := fun e => hsz (by rw [e]; rfl)
      obtain ⟨m, rfl⟩ : ∃ m, sz = m + 1 := ⟨sz - 1, by omega⟩
      simp [this]

theorem evIndexAddr_ok (hT : TabOk P tab) {E : Env} {H : Heap} (hO : Ok H E) {t : TypeId} {x ix r : SV} {u ui : Value} {sc : Prop} (hx : rel x E u) (hi : rel ix E ui) (h : evIndexAddr std tab H t x ix = some (r, sc)) (hsc : sc) :
    ∃ v, rel r E v ∧ ∀ w', (Instr.indexAt t u ui).run P w' = .ok v w' := by
  unfold evIndexAddr at h
  split at h
  case h_2 => cases h
  rename_i ti k i hti
  simp only [rel] at hi
  subst hi
  have ht := hT.ty t ti hti
  split at h
  case h_4 => cases h
  · rename_i el sz n get htd
    split at h
    case h_2 => cases h
    rename_i ei hei
    split at h
    case isFalse => cases h
    rename_i hsz
    have hsz' := Nat.eq_of_beq_eq_true hsz
    simp only [Option.some.injEq, Prod.mk.injEq] at h
    obtain ⟨rfl, rfl⟩ := h
    simp only [std] at hsc
    obtain ⟨d, hd, hd'⟩ := ht.und
    rw [htd] at hd'
    simp only at hd'
    subst hd'
    obtain ⟨ie, hie, hies, _⟩ := (hT.ty el ei hei).info
    simp only [rel] at hx
    obtain ⟨a, cap, rfl, h1, h2, h3, h4⟩ := hx
    obtain ⟨b, off, us, rfl, hst, hc, hl, hr, _⟩ := h4 i.toNat (by omega)
    refine ⟨.pointer (some ⟨b, off + i.toNat * sz, none⟩), ?_, fun w' => ?_⟩
    · simp only [rel]
      exact ⟨b, off + i.toNat * sz, us, rfl, hst, hc, hr⟩
    · have hb : 0 ≤ i ∧ i < (n : Int) := hsc
      simp [Instr.indexAt, asIntOf, run_underlying hd, sizeOf, typeInfo, hie, hies, hsz', hb, Addr.add_mid]
  · rename_i el rr ver htd
    split at h
    case h_3 => cases h
    case h_2 =>
      rename_i ei n get hei hH
      split at h
      case isFalse => cases h
      rename_i hsz
      have hsz' := Nat.eq_of_beq_eq_true hsz
      simp only [Option.some.injEq, Prod.mk.injEq] at h
      obtain ⟨rfl, rfl⟩ := h
      simp only [std] at hsc
      obtain ⟨rfl, hb⟩ := hsc
      obtain ⟨d, hd, hd'⟩ := ht.und
      rw [htd] at hd'
      simp only at hd'
      subst hd'
      obtain ⟨ie, hie, hies, _⟩ := (hT.ty el ei hei).info
      simp only [rel] at hx
      obtain ⟨b, cs, ty, c, h1, h2, h3, h4, h5, h6⟩ := hO.blocks rr _ hH
      rw [hx.1] at h5; cases h5
      refine ⟨.pointer (some ⟨b, i.toNat, none⟩), ?_, fun w' => ?_⟩
      · simp only [rel]
        exact ⟨b, h1, by simp⟩
      · simp [Instr.indexAt, asIntOf, run_underlying hd, sizeOf, typeInfo, hie, hies, hsz', hb, Addr.add_mid]
    rename_i ei ty sz n get ver' hei hH
    split at h
    case isFalse => cases h
    rename_i hsz
    have hsz' := Nat.eq_of_beq_eq_true hsz
    simp only [Option.some.injEq, Prod.mk.injEq] at h
    obtain ⟨rfl, rfl⟩ := h
    simp only [std] at hsc
    obtain ⟨rfl, hb⟩ := hsc
    obtain ⟨d, hd, hd'⟩ := ht.und
    rw [htd] at hd'
    simp only at hd'
    subst hd'
    obtain ⟨ie, hie, hies, _⟩ := (hT.ty el ei hei).info
    simp only [rel] at hx
    obtain ⟨u', xs, h1, h0, h2, h3, h5, h4⟩ := hO.blocks rr _ hH
    rw [hx.1] at h1; cases h1
    rcases h2.2 with ⟨rfl, hn⟩ | ⟨g, cap, cur, rfl, _⟩
    · omega
    · refine ⟨.pointer (some ⟨g, i.toNat * sz, none⟩), ?_, fun w' => ?_⟩
      · simp only [rel]
        exact ⟨g, 0, n, cap, sz, hx.1, h0, by simp [std]⟩
      · simp [Instr.indexAt, asIntOf, run_underlying hd, sizeOf, typeInfo, hie, hies, hsz', hb, Addr.add_mid]
  · rename_i len sz ag b off htd
    split at h
    case isFalse => cases h
    simp only [Option.some.injEq, Prod.mk.injEq] at h
    obtain ⟨rfl, rfl⟩ := h
    simp only [std] at hsc
    obtain ⟨d, hd, hd'⟩ := ht.und
    rw [htd] at hd'
    obtain ⟨e, ei, rfl, hei, hes⟩ := hd'
    simp only [rel] at hx
    obtain ⟨bb, hbb, rfl⟩ := hx
    refine ⟨.pointer (some ⟨bb, off + i.toNat * sz, none⟩), ?_, fun w' => ?_⟩
    · simp only [rel]; exact ⟨bb, hbb, rfl⟩
    · have hb : 0 ≤ i ∧ i < (len : Int) := hsc
      simp [Instr.indexAt, asIntOf, run_underlying hd, sizeOf, typeInfo, hei, hes, hb, Instr.sureAddr, Addr.add_mid]

theorem evIndexAddrC_ok (hT : TabOk P tab) {E : Env} {t : TypeId} {x r : SV} {u : Value} {k : IntKind} {i : Int} {sc : Prop} (hx : rel x E u) (h : evIndexAddrC tab t x i = some (r, sc)) :
    ∃ v, rel r E v ∧ ∀ w', (Instr.indexAt t u (.int k i)).run P w' = .ok v w' := by
  unfold evIndexAddrC at h
  split at h
  case h_2 => cases h
  rename_i len sz ag s z by_ hti
  split at h
  case h_2 => cases h
  rename_i b off
  split at h
  case isFalse => cases h
  rename_i hb
  simp only [Option.some.injEq, Prod.mk.injEq] at h
  obtain ⟨rfl, rfl⟩ := h
  obtain ⟨d, hd, e, ei, rfl, hei, hes⟩ := (hT.ty t _ hti).und
  simp only [rel] at hx
  obtain ⟨bb, hbb, rfl⟩ := hx
  refine ⟨.pointer (some ⟨bb, off + i.toNat * sz, none⟩), ?_, fun w' => ?_⟩
  · simp only [rel]; exact ⟨bb, hbb, rfl⟩
  · simp only [Bool.and_eq_true, decide_eq_true_eq] at hb
    have hb1 := Nat.blt_eq.mp hb.1
    have hb' : 0 ≤ i ∧ i < (len : Int) := ⟨hb.2, by omega⟩
    simp [Instr.indexAt, asIntOf, run_underlying hd, sizeOf, typeInfo, hei, hes, hb', Instr.sureAddr, Addr.add_mid]

theorem evLen_ok (hT : TabOk P tab) {E : Env} {H : Heap} (hO : Ok H E) {ats : Array TypeId} {ty : TypeId} {x r : SV} {u : Value} {sc : Prop} (hx : rel x E u) (h : evLen std tab H ats.toList x = some (r, sc)) (hsc : sc) :
    ∃ v, rel r E v ∧ ∀ w', (Builtin.len_ ats ty #[u]).run P w' = .ok v w' := by
  unfold evLen at h
  split at h
  case h_2 => cases h
  rename_i t hats
  have hat : ats[0]? = some t := by rw [← Array.getElem?_toList, hats]; rfl
  split at h
  case h_5 => cases h
  · rename_i el s z by_ sz n get hti
    simp only [Option.some.injEq, Prod.mk.injEq] at h
    obtain ⟨rfl, rfl⟩ := h
    obtain ⟨d, hd, hd'⟩ := (hT.ty t _ hti).und
    simp only at hd'
    subst hd'
    simp only [rel] at hx ⊢
    obtain ⟨a, cap, rfl, _⟩ := hx
    exact ⟨_, rfl, fun w' => by simp [Builtin.len_, hat, run_underlying hd, goInt, std]⟩
  · rename_i s z by_ b hti
    simp only [Option.some.injEq, Prod.mk.injEq] at h
    obtain ⟨rfl, rfl⟩ := h
    obtain ⟨d, hd, hd'⟩ := (hT.ty t _ hti).und
    simp only at hd'
    subst hd'
    simp only [rel] at hx ⊢
    subst hx
    exact ⟨_, rfl, fun w' => by simp [Builtin.len_, hat, run_underlying hd, goInt, std]⟩
  · rename_i el s z by_ a n c hti
    simp only [Option.some.injEq, Prod.mk.injEq] at h
    obtain ⟨rfl, rfl⟩ := h
    obtain ⟨d, hd, hd'⟩ := (hT.ty t _ hti).und
    simp only at hd'
    subst hd'
    simp only [rel] at hx ⊢
    subst hx
    exact ⟨_, rfl, fun w' => by simp [Builtin.len_, hat, run_underlying hd, goInt, std]⟩
  · rename_i el s z by_ rr ver hti
    split at h
    case h_3 => cases h
    case h_2 =>
      rename_i n get hH
      simp only [Option.some.injEq, Prod.mk.injEq] at h
      obtain ⟨rfl, rfl⟩ := h
      simp only [std] at hsc
      subst hsc
      obtain ⟨d, hd, hd'⟩ := (hT.ty t _ hti).und
      simp only at hd'
      subst hd'
      simp only [rel] at hx ⊢
      obtain ⟨b, cs, ty, c, h1, h2, h3, h4, h5, h6⟩ := hO.blocks rr _ hH
      rw [hx.1] at h5; cases h5
      exact ⟨_, rfl, fun w' => by simp [Builtin.len_, hat, run_underlying hd, goInt, std]⟩
    rename_i ty' sz n get ver' hH
    simp only [Option.some.injEq, Prod.mk.injEq] at h
    obtain ⟨rfl, rfl⟩ := h
    simp only [std] at hsc
    subst hsc
    obtain ⟨d, hd, hd'⟩ := (hT.ty t _ hti).und
    simp only at hd'
    subst hd'
    simp only [rel] at hx ⊢
    obtain ⟨u', xs, h1, h0, h2, h3, h5, h4⟩ := hO.blocks rr _ hH
    rw [hx.1] at h1; cases h1
    refine ⟨_, rfl, fun w' => ?_⟩
    rcases h2.2 with ⟨rfl, hn⟩ | ⟨g, cap, cur, rfl, _⟩
    · subst hn; simp [Builtin.len_, hat, run_underlying hd, goInt, std]
    · simp [Builtin.len_, hat, run_underlying hd, goInt, std]
end Go.Sx
