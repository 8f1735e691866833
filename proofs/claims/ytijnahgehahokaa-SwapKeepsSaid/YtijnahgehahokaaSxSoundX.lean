/- Stores into rows, appends of strings, conversions between strings and bytes: what they do to the state. -/
import Derived.Test.YtijnahgehahokaaSxSoundF
import Derived.Lib.AppendStr
import Derived.Lib.ConvBytes
import Derived.Laws.IdiomStrings
set_option linter.unusedVariables false
set_option linter.unusedSimpArgs false
namespace Go.Sx
open Go.RowKit
variable {P : Program} {tab : Tab}

theorem splice_get {α : Type} (L vs : List α) (o : Nat) (h : o + vs.length ≤ L.length) (p : Nat) : (L.take o ++ vs ++ L.drop (o + vs.length))[p]? = if p < o then L[p]? else if p < o + vs.length then vs[p - o]? else L[p]? := by
  have hl : (L.take o).length = o := by simp; omega
  by_cases h1 : p < o
  · rw [if_pos h1, List.append_assoc, List.getElem?_append_left (by omega), List.getElem?_take_of_lt h1]
  · rw [if_neg h1]
    by_cases h2 : p < o + vs.length
    · rw [if_pos h2, List.append_assoc, List.getElem?_append_right (by omega), List.getElem?_append_left (by omega), hl]
    · rw [if_neg h2, List.getElem?_append_right (by simp; omega), List.getElem?_drop]
      congr 1
      simp; omega
theorem splice_len {α : Type} (L vs : List α) (o : Nat) (h : o + vs.length ≤ L.length) : (L.take o ++ vs ++ L.drop (o + vs.length)).length = L.length := by simp; omega
theorem window_get {α : Type} (L : List α) (a n p : Nat) : ((L.drop a).take n)[p]? = if p < n then L[a + p]? else none := by
  by_cases h : p < n
  · rw [if_pos h, List.getElem?_take_of_lt h, List.getElem?_drop]
  · rw [if_neg h, List.getElem?_eq_none (by simp; omega)]

/-- A store into an element of a row of one's own. -/
theorem rowStore_ok {E : Env} {H : Heap} (hO : Ok H E) {i ver : Nat} {ty : TypeId} {sz n : Nat} {get : Nat → List SV} (hi : H[i]? = some (.row ty sz n get ver)) {u : Value} (hu : E.σ i ver = some u) {j off : Nat} (hj : j < n)
    {xs : List SV} {vs : List Value} (hv : relL xs E vs) (hpl : scopeL 0 xs = true) (hone : ∀ v ∈ vs, v.oneCell' = true) (hle : off + vs.length ≤ sz) :
    ∃ g cap, u = .slice (some ⟨g, 0, none⟩) n cap ∧ E.w.there g (j * sz + off) vs.length ∧ Ext E { E with w := E.w.setCells g (j * sz + off) vs } ∧
      Ok (H.set i (.row ty sz n (updR get j fun cs => setAt cs off xs) ver)) { E with w := E.w.setCells g (j * sz + off) vs } := by
  obtain ⟨u', ys, h1, h0, h2, h3, h5, h4⟩ := hO.blocks i _ hi
  rw [hu] at h1; cases h1
  rcases h2.2 with ⟨rfl, hn⟩ | ⟨g, cap, cur, rfl, hg0, hh, hnc, hcm, hcs, ht⟩
  · omega
  have hmul : j * sz + sz ≤ n * sz := by have := Nat.mul_le_mul_right sz (show j + 1 ≤ n from hj); rw [Nat.add_mul, Nat.one_mul] at this; exact this
  have hmul2 : n * sz ≤ cap * sz := Nat.mul_le_mul_right sz hnc
  have hcl : cur.toList.length = cap * sz := by simpa using hcs
  have hfit : j * sz + off + vs.length ≤ cur.toList.length := by omega
  have hbk : blk E i (.row ty sz n get ver) = some g := by simp [blk, hu, Value.ownBlock]
  have hgT : E.T g := h3 g rfl
  have hh' : E.w.heap[g]? = some (.cells cur.toList.toArray ty (0, 0)) := hh
  refine ⟨g, cap, rfl, ?_, ?_⟩
  · intro k hk
    have hkl : j * sz + off + k < cur.size := by simp at hfit; omega
    refine ⟨by rw [cell_of_row E.w g _ cur ty (0, 0) hh]; simp [hkl], by simp [World.frozen?, hh]⟩
  obtain ⟨k1, k2, k3, k4⟩ := setCells_same g vs (j * sz + off) E.w
  have hx : Ext E { E with w := E.w.setCells g (j * sz + off) vs } :=
    ⟨k1, k2, k3, Nat.le_of_eq k4.symm, fun _ _ h => h, fun _ _ _ h => h, fun c hc => ⟨setCells_other g c (by intro e; subst e; exact hc.2 hgT) vs _ E.w, hc.2⟩,
      fun c hc => ⟨setCells_other g c (by intro e; subst e; exact hO.fown i _ _ hi hbk hc) vs _ E.w, hc⟩⟩
  refine ⟨hx, write_ok hO hi hx rfl (fun _ h => h) (fun c hc => by have := hO.tlt c hc; show c < (E.w.setCells g _ vs).heap.size; omega) (fun c _ hc => setCells_other g c (by intro e; subst e; exact hc hbk) vs _ E.w) ?_ (fun c hc => .inl hc) hO.fresh ?_⟩
  · have hnew := setCells_heap g vs (j * sz + off) E.w cur.toList ty (0, 0) hh' hfit
    have hsl := splice_len cur.toList vs (j * sz + off) hfit
    have hyl : ys.length = n * sz := h2.1
    have hyg : ∀ p, p < n * sz → ys[p]? = cur.toList[p]? := by intro p hp; rw [← ht, List.getElem?_take_of_lt hp]
    generalize hLe : cur.toList.take (j * sz + off) ++ vs ++ cur.toList.drop (j * sz + off + vs.length) = L at hnew hsl
    have hLg : ∀ p, L[p]? = if p < j * sz + off then cur.toList[p]? else if p < j * sz + off + vs.length then vs[p - (j * sz + off)]? else cur.toList[p]? := by
      intro p; rw [← hLe]; exact splice_get cur.toList vs (j * sz + off) hfit p
    refine ⟨_, L.take (n * sz), hu, h0, ⟨by rw [List.length_take]; omega, .inr ⟨g, cap, L.toArray, rfl, Nat.zero_le _, hnew, hnc, hcm, by simp; omega, rfl⟩⟩, h3, fun x hx' => ?_, fun k hk => ?_⟩
    · have hm := List.mem_of_mem_take hx'
      rw [← hLe] at hx'
      obtain ⟨p, hp⟩ := List.getElem?_of_mem hx'
      have hpl' : p < n * sz := by
        have := (List.getElem?_eq_some_iff.1 hp).1
        simp at this; omega
      rw [List.getElem?_take_of_lt hpl', hLe, hLg] at hp
      split at hp
      · rw [← hyg p hpl'] at hp; exact h5 x (List.mem_of_getElem? hp)
      · split at hp
        · exact hone x (List.mem_of_getElem? hp)
        · rw [← hyg p hpl'] at hp; exact h5 x (List.mem_of_getElem? hp)
    · have hkm : k * sz + sz ≤ n * sz := by have := Nat.mul_le_mul_right sz (show k + 1 ≤ n from hk); rw [Nat.add_mul, Nat.one_mul] at this; exact this
      have hpl2 : relL xs { E with w := E.w.setCells g (j * sz + off) vs }.pl vs := relL_ext _ hx.pl _ (relL_plain hpl hv)
      have hold := relL_ext _ hx.pl _ (h4 k hk)
      by_cases e : k = j
      · subst e
        have hb : Nat.beq k k = true := Nat.beq_refl k
        simp only [updR, hb, cond_true]
        have hval : ((L.take (n * sz)).drop (k * sz)).take sz = ((ys.drop (k * sz)).take sz).take off ++ vs ++ ((ys.drop (k * sz)).take sz).drop (off + vs.length) := by
          apply List.ext_getElem?
          intro p
          have hwl : ((ys.drop (k * sz)).take sz).length = sz := by simp; omega
          rw [splice_get _ vs off (by omega), window_get, window_get]
          by_cases hp : p < sz
          · rw [if_pos hp, if_pos hp, List.getElem?_take_of_lt (by omega), hLg, hyg _ (by omega)]
            have e1 : (k * sz + p < k * sz + off) = (p < off) := by simp
            have e2 : (k * sz + p < k * sz + off + vs.length) = (p < off + vs.length) := by apply propext; omega
            have e3 : k * sz + p - (k * sz + off) = p - off := by omega
            simp only [e1, e2, e3]
          · rw [if_neg hp, if_neg hp, if_neg (by omega), if_neg (by omega)]
        rw [hval]
        unfold setAt
        rw [relL_length hv]
        exact relL_append (relL_append (relL_take _ hold) hpl2) (relL_drop _ hold)
      · have hb : Nat.beq k j = false := by cases h : Nat.beq k j with | false => rfl | true => exact absurd (Nat.eq_of_beq_eq_true h) e
        simp only [updR, hb, cond_false]
        have hval : ((L.take (n * sz)).drop (k * sz)).take sz = (ys.drop (k * sz)).take sz := by
          apply List.ext_getElem?
          intro p
          rw [window_get, window_get]
          by_cases hp : p < sz
          · rw [if_pos hp, if_pos hp, List.getElem?_take_of_lt (by omega), hLg, hyg _ (by omega)]
            rcases Nat.lt_or_gt_of_ne e with h | h
            · have := Nat.mul_le_mul_right sz (show k + 1 ≤ j from h)
              rw [Nat.add_mul, Nat.one_mul] at this
              rw [if_pos (by omega)]
            · have := Nat.mul_le_mul_right sz (show j + 1 ≤ k from h)
              rw [Nat.add_mul, Nat.one_mul] at this
              rw [if_neg (by omega), if_neg (by omega)]
          · rw [if_neg hp, if_neg hp]
        rw [hval]; exact hold
  · intro j' ty' sz' n' get' ver' hj' k hk
    by_cases e : j' = i
    · rw [if_pos e] at hj'
      simp only [Option.some.injEq, HB.row.injEq] at hj'
      obtain ⟨_, _, _, _, rfl⟩ := hj'
      rw [e]; exact hO.ver i ty sz n get ver hi k hk
    · rw [if_neg e] at hj'; exact hO.ver j' ty' sz' n' get' ver' hj' k hk

/-- A store into bytes that were made of a string. -/
theorem bufStore_ok {E : Env} {H : Heap} (hO : Ok H E) {i n : Nat} {get : Nat → Int} (hi : H[i]? = some (.buf n get)) {b : Nat} (hb : E.ρ i = some b) {j : Nat} (hj : j < n) (c : Int) :
    E.w.there b j 1 ∧ Ext E { E with w := E.w.setCells b j [.int .u8 c] } ∧ Ok (H.set i (.buf n (updI get j c))) { E with w := E.w.setCells b j [.int .u8 c] } := by
  obtain ⟨b', cs, ty, cp, h1, h2, h3, h4, h5, h6⟩ := hO.blocks i _ hi
  rw [hb] at h1; cases h1
  have hbk : blk E i (.buf n get) = some b := hb
  have h3' : E.w.heap[b]? = some (.cells cs.toList.toArray ty (cs.size, cs.size + 1)) := h3
  obtain ⟨k1, k2, k3, k4⟩ := setCells_same b [.int .u8 c] j E.w
  have hx : Ext E { E with w := E.w.setCells b j [.int .u8 c] } :=
    ⟨k1, k2, k3, Nat.le_of_eq k4.symm, fun _ _ h => h, fun _ _ _ h => h, fun d hd => ⟨setCells_other b d (by intro e; subst e; exact hd.2 h2) _ _ E.w, hd.2⟩,
      fun d hd => ⟨setCells_other b d (by intro e; subst e; exact hO.fown i _ _ hi hbk hd) _ _ E.w, hd⟩⟩
  refine ⟨?_, hx, write_ok hO hi hx rfl (fun _ h => h) (fun d hd => by have := hO.tlt d hd; show d < (E.w.setCells b _ _).heap.size; omega) (fun d _ hd => setCells_other b d (by intro e; subst e; exact hd hbk) _ _ E.w) ?_ (fun d hd => .inl hd) hO.fresh ?_⟩
  · intro k hk
    have hk0 : k = 0 := by omega
    subst hk0
    refine ⟨by rw [cell_of_row E.w b _ cs ty _ h3]; simp; omega, ?_⟩
    simp [World.frozen?, h3]; omega
  · have hnew := setCells_heap b [.int .u8 c] j E.w cs.toList ty (cs.size, cs.size + 1) h3' (by simp; omega)
    have hsl := splice_len cs.toList [Value.int .u8 c] j (by simp; omega)
    refine ⟨b, (cs.toList.take j ++ [Value.int .u8 c] ++ cs.toList.drop (j + [Value.int .u8 c].length)).toArray, ty, cp, hb, h2, ?_, ?_, h5, fun k hk => ?_⟩
    · have e : (cs.toList.take j ++ [Value.int .u8 c] ++ cs.toList.drop (j + [Value.int .u8 c].length)).toArray.size = cs.size := by simp only [List.size_toArray, hsl]; simp
      rw [e]; exact hnew
    · simp only [List.size_toArray, hsl]; simpa using h4
    · rw [List.getElem?_toArray, splice_get cs.toList [Value.int .u8 c] j (by simp; omega)]
      by_cases e : k = j
      · subst e
        simp [updI]
      · have hbq : Nat.beq k j = false := by cases h : Nat.beq k j with | false => rfl | true => exact absurd (Nat.eq_of_beq_eq_true h) e
        have := h6 k hk
        simp only [updI, hbq, cond_false]
        split
        · simpa using this
        · rw [if_neg (by simp; omega)]; simpa using this
  · intro j' ty' sz' n' get' ver' hj'
    by_cases e : j' = i
    · rw [if_pos e] at hj'; cases hj'
    · rw [if_neg e] at hj'; exact hO.ver j' ty' sz' n' get' ver' hj'

/-- A literal slice of nothing: a row of one's own. -/
theorem newRow0_ok {E : Env} {H : Heap} (hO : Ok H E) (ty sz : Nat) (get : Nat → List SV) :
    ∃ E', E'.w = E.w.alloc (.cells #[] ty) ∧ Ext E E' ∧ Ok (H ++ [.row ty sz 0 get 0]) E' ∧ rel (.o H.length 0) E' (.slice (some ⟨E.w.heap.size, 0, none⟩) 0 0) := by
  let E' : Env := { w := E.w.alloc (.cells #[] ty), ρ := fun i => if i = H.length then some sz else E.ρ i, σ := fun i k => if i = H.length then (if k = 0 then some (.slice (some ⟨E.w.heap.size, 0, none⟩) 0 0) else none) else E.σ i k, T := fun b => E.T b ∨ b = E.w.heap.size, F := E.F }
  have hp : Push E E' H.length (some sz) (some (.slice (some ⟨E.w.heap.size, 0, none⟩) 0 0)) := by
    refine ⟨rfl, rfl, rfl, by show _ ≤ (E.w.alloc _).heap.size; rw [alloc_size]; omega, fun b hb => alloc_old _ _ hb, fun i => rfl, fun i k => rfl, fun b hb => ?_, fun b hb => .inl hb, rfl⟩
    rcases hb with hb | rfl
    · exact .inl hb
    · exact .inr ⟨Nat.le_refl _, by show _ < (E.w.alloc _).heap.size; rw [alloc_size]; omega⟩
  refine ⟨E', rfl, hp.ext hO rfl, ok_push hO hp ?_ ?_ ?_ ?_, ?_⟩
  · refine ⟨.slice (some ⟨E.w.heap.size, 0, none⟩) 0 0, [], by simp [E'], by simp [E'], ⟨by simp, .inr ⟨E.w.heap.size, 0, #[], rfl, Nat.zero_le _, alloc_new E.w _, Nat.le_refl _, by simp [maxLen], by simp, by simp⟩⟩, ?_, by simp, by omega⟩
    intro g hg
    simp only [Value.ownBlock, Option.some.injEq] at hg
    exact .inr hg.symm
  · intro b hb
    simp [blk, E', Value.ownBlock] at hb
    omega
  · intro _ _ _ _ _ h; cases h; rfl
  · intro b hb
    rcases hb with hb | rfl
    · exact Nat.lt_of_lt_of_le (hO.tlt b hb) hp.size
    · show _ < (E.w.alloc _).heap.size; rw [alloc_size]; omega
  · simp only [rel]; exact ⟨by simp [E'], _, _, _, rfl⟩

/-- Bytes that are made of a string. -/
theorem newBuf_ok {E : Env} {H : Heap} (hO : Ok H E) (e : TypeId) (s : ByteArray) :
    ∃ E', E'.w = Lib.bytesWorld E.w e s ∧ Ext E E' ∧ Ok (H ++ [.buf s.size fun j => std.byte s (std.of j)]) E' ∧ rel (.o H.length 0) E' (.slice (some ⟨E.w.heap.size, 0, none⟩) s.size (grownCap E.w s.size 0 e)) := by
  let u : Value := .slice (some ⟨E.w.heap.size, 0, none⟩) s.size (grownCap E.w s.size 0 e)
  let E' : Env := { w := Lib.bytesWorld E.w e s, ρ := fun i => if i = H.length then some E.w.heap.size else E.ρ i, σ := fun i k => if i = H.length then (if k = 0 then some u else none) else E.σ i k, T := fun b => E.T b ∨ b = E.w.heap.size, F := E.F }
  have hsz := Lib.bytesWorld_size E.w e s
  have hp : Push E E' H.length (some E.w.heap.size) (some u) := by
    refine ⟨rfl, rfl, rfl, by show _ ≤ (Lib.bytesWorld E.w e s).heap.size; omega, fun b hb => Lib.bytesWorld_at_old E.w e s b hb, fun i => rfl, fun i k => rfl, fun b hb => ?_, fun b hb => .inl hb, rfl⟩
    rcases hb with hb | rfl
    · exact .inl hb
    · exact .inr ⟨Nat.le_refl _, by show _ < (Lib.bytesWorld E.w e s).heap.size; omega⟩
  refine ⟨E', rfl, hp.ext hO rfl, ok_push hO hp ?_ ?_ ?_ ?_, ?_⟩
  · refine ⟨E.w.heap.size, Lib.bytesCells E.w e s, e, grownCap E.w s.size 0 e, by simp [E'], .inr rfl, Lib.bytesWorld_at_new E.w e s, ?_, by simp [E', u], fun j hj => ?_⟩
    · simp only [Lib.bytesCells, Array.size_append, Array.size_map, Array.size_replicate]
      have : s.data.size = s.size := rfl
      omega
    · have hj' : j < s.data.size := hj
      simp [Lib.bytesCells, Array.getElem?_append, hj', std]
      rw [if_pos hj]; simp [Array.getElem?_eq_getElem hj']
  · intro b hb
    simp [blk, E'] at hb
    omega
  · intro _ _ _ _ _ h; cases h
  · intro b hb
    rcases hb with hb | rfl
    · have := hO.tlt b hb; show _ < (Lib.bytesWorld E.w e s).heap.size; omega
    · show _ < (Lib.bytesWorld E.w e s).heap.size; omega
  · simp only [rel]; exact ⟨by simp [E', u], _, _, _, rfl⟩

/-- Behind an append of a string, a row lies where it lay, or in new memory. -/
theorem run_appendS_where {w : World} (t t2 ty e : TypeId) (i : TypeInfo) (ht : P.underlying t = some (.slice e)) (hu : P.underlying t2 = some .string) (hi : P.info? e = some i) (hz : i.zero = some (.int .u8 0))
    (hsize : i.size = 1) (hby : i.bytes = 1) (v : Value) (n : Nat) (xs : List Value) (hown : w.ownsRow 0 e 1 v n xs) (s : ByteArray) (h63 : n + s.size ≤ maxLen) (hbytes : n + s.size ≤ 140737488355328) :
    ∃ v' w', (Builtin.append_ #[t, t2] ty #[v, .string s]).run P w = .ok v' w' ∧ w'.ownsRow 0 e 1 v' (n + s.size) (xs ++ Lib.strCells s) ∧ w.grownBy w' v.ownBlock ∧
      (∀ g, v'.ownBlock = some g → v.ownBlock = some g ∨ w.heap.size ≤ g) ∧ ∃ a n c, v' = .slice a n c := by
  obtain ⟨v', w', hr, ho, hg, _⟩ := Lib.run_append_own_string (P := P) w 0 t t2 ty e i ht hu hi hz hsize hby v n xs hown s h63 hbytes (Nat.zero_le _)
  have hsl : ∃ a n c, v' = .slice a n c := by
    rcases ho.2 with ⟨rfl, _⟩ | ⟨g, cap, cur, rfl, _⟩ <;> exact ⟨_, _, _, rfl⟩
  refine ⟨v', w', hr, ho, hg, fun g hgb => ?_, hsl⟩
  rcases hown.2 with ⟨rfl, rfl⟩ | ⟨g0, cap, cur, rfl, _, hh, hnc, hcm, hcs, htake⟩
  · have hx : xs = [] := List.eq_nil_of_length_eq_zero (by simpa using hown.1)
    subst hx
    obtain ⟨v2, w2, hr2, ho2, _, _⟩ := Lib.run_append_own_string (P := P) w w.heap.size t t2 ty e i ht hu hi hz hsize hby _ 0 [] (World.ownsRow_nil w w.heap.size e 1) s h63 hbytes (Nat.le_refl _)
    rw [hr] at hr2
    cases hr2
    exact .inr (ho2.lt g hgb).1
  · by_cases hroom : n + s.size ≤ cap
    · have hfit : n + s.size ≤ cur.size := by omega
      have hr2 := Lib.run_append_room_string (P := P) w t t2 ty e i ht hu hi hsize g0 n cap cur hh s hroom hfit
      rw [hr] at hr2
      cases hr2
      exact .inl hgb
    · have holds : ∀ j u, xs[j]? = some u → w.cell? ((⟨g0, 0, none⟩ : Addr).add j) = some u := hown.cells (g := g0) rfl
      have hr2 := Lib.run_append_grow_string (P := P) w t t2 ty e i _ ht hu hi hz ⟨g0, 0, none⟩ n cap xs (by rw [hsize]; exact hown.1) holds s (by omega) (by simp only [maxLen] at h63; omega) (growslice_fits (by omega) (by rw [hby]; omega))
      rw [hr] at hr2
      cases hr2
      simp only [Value.ownBlock, Option.some.injEq] at hgb
      exact .inr (by omega)
end Go.Sx
