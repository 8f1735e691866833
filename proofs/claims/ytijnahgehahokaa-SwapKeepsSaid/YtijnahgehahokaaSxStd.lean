/- The leaves, told by name: what the runner's conditions say once they are reckoned. -/
import Derived.Test.YtijnahgehahokaaBnWalk
set_option linter.unusedVariables false
set_option linter.unusedSimpArgs false
namespace Go.Sx
open Go.Sx.Bn
theorem leaf_eq {ar cmp neg cv mx mn nt ite beq scmp cat sub byte ssz of nat nadd nsub sel inb inc le ne0 nneg eqn room} (h : Leaf.mk ar cmp neg cv mx mn nt ite beq scmp cat sub byte ssz of nat nadd nsub sel inb inc le ne0 nneg eqn room = std) :
    ar = std.ar ∧ cmp = std.cmp ∧ neg = std.neg ∧ cv = std.cv ∧ mx = std.mx ∧ mn = std.mn ∧ nt = std.not ∧ ite = std.ite ∧ beq = std.beq ∧ scmp = std.scmp ∧ cat = std.cat ∧ sub = std.sub ∧ byte = std.byte ∧ ssz = std.ssize ∧ of = std.of ∧ nat = std.nat ∧
    nadd = std.nadd ∧ nsub = std.nsub ∧ sel = std.sel ∧ inb = std.inb ∧ inc = std.inc ∧ le = std.le ∧ ne0 = std.ne0 ∧ nneg = std.nneg ∧ eqn = std.eqn ∧ room = std.room := by
  rw [← h]; exact ⟨rfl, rfl, rfl, rfl, rfl, rfl, rfl, rfl, rfl, rfl, rfl, rfl, rfl, rfl, rfl, rfl, rfl, rfl, rfl, rfl, rfl, rfl, rfl, rfl, rfl, rfl⟩
def gb (b : ByteArray) (i : Nat) : UInt8 := b.data.toList.getD i 0
def bt (b : ByteArray) (i : Nat) : Int := ((gb b i).toNat : Int)
theorem s_of (n : Nat) : std.of n = (n : Int) := rfl
theorem s_nat (i : Int) : std.nat i = i.toNat := rfl
theorem s_nadd (a b : Nat) : std.nadd a b = a + b := rfl
theorem s_nsub (a b : Nat) : std.nsub a b = a - b := rfl
theorem s_ssz (b : ByteArray) : std.ssize b = b.size := rfl
theorem s_lss (x y : Int) : std.cmp .lss x y = decide (x < y) := rfl
theorem s_leq (x y : Int) : std.cmp .leq x y = decide (x ≤ y) := rfl
theorem s_gtr (x y : Int) : std.cmp .gtr x y = decide (x > y) := rfl
theorem s_geq (x y : Int) : std.cmp .geq x y = decide (x ≥ y) := rfl
theorem s_eql (x y : Int) : std.cmp .eql x y = decide (x = y) := by simp only [std]; by_cases h : x = y <;> simp [h]
theorem s_neq (x y : Int) : std.cmp .neq x y = decide (x ≠ y) := by simp only [std]; by_cases h : x = y <;> simp [h]
theorem s_not (b : Bool) : std.not b = !b := rfl
theorem s_ite (c a b : Bool) : std.ite c a b = if c then a else b := rfl
theorem s_beq (a b : Bool) : std.beq a b = (a == b) := rfl
theorem s_inb (i : Int) (n : Nat) : std.inb i n = (0 ≤ i ∧ i < n) := rfl
theorem s_inc (i n : Int) : std.inc i n = (0 ≤ i ∧ i ≤ n) := rfl
theorem s_le (a b : Nat) : std.le a b = (a ≤ b) := rfl
theorem s_eqn (a b : Nat) : std.eqn a b = (a = b) := rfl
theorem s_room (n b : Nat) : std.room n b = (n ≤ maxLen ∧ n * b ≤ 140737488355328) := rfl
theorem s_ne0 (x : Int) : std.ne0 x = (x ≠ 0) := rfl
theorem s_nneg (x : Int) : std.nneg x = (0 ≤ x) := rfl
theorem s_mx (x y : Int) : std.mx x y = max x y := by simp only [std]; omega
theorem s_mn (x y : Int) : std.mn x y = min x y := by simp only [std]; omega
theorem s_add {x y : Int} (h0 : -9223372036854775808 ≤ x + y) (h1 : x + y ≤ 9223372036854775807) : std.ar .add .i64 x y = x + y := wrap_of h0 h1
theorem s_sub {x y : Int} (h0 : -9223372036854775808 ≤ x - y) (h1 : x - y ≤ 9223372036854775807) : std.ar .sub .i64 x y = x - y := wrap_of h0 h1
theorem s_mul {x y : Int} (h0 : -9223372036854775808 ≤ x * y) (h1 : x * y ≤ 9223372036854775807) : std.ar .mul .i64 x y = x * y := wrap_of h0 h1
theorem s_cv {x : Int} (h0 : -9223372036854775808 ≤ x) (h1 : x ≤ 9223372036854775807) : std.cv .i64 x = x := wrap_of h0 h1
theorem s_cat (a b : ByteArray) : std.cat a b = a ++ b := rfl
theorem s_subs (s : ByteArray) (l h : Int) : std.sub s l h = s.extract l.toNat h.toNat := rfl
theorem s_byte (b : ByteArray) (i : Int) : std.byte b i = bt b i.toNat := rfl
theorem s_sne (a b : ByteArray) : std.scmp .neq a b = !(a.toList == b.toList) := rfl
theorem s_seq (a b : ByteArray) : std.scmp .eql a b = (a.toList == b.toList) := rfl
/-- Two bytes as a number. -/
theorem two_bytes (x y : Int) (hx : 0 ≤ x ∧ x < 256) (hy : 0 ≤ y ∧ y < 256) : std.ar .or .i64 (std.ar .shl .i64 x 8) y = x * 256 + y := by
  obtain ⟨n, rfl⟩ := Int.eq_ofNat_of_zero_le hx.1
  obtain ⟨m, rfl⟩ := Int.eq_ofNat_of_zero_le hy.1
  have e1 : std.ar .shl .i64 (n : Int) 8 = ((n * 256 : Nat) : Int) := by
    simp only [std]
    have : (n : Int) * 2 ^ (min (Int.toNat 8) IntKind.i64.bits) = ((n * 256 : Nat) : Int) := by
      have : min (Int.toNat 8) IntKind.i64.bits = 8 := by decide
      rw [this]; simp
    rw [this, wrap_of (by omega) (by omega)]
  rw [e1]
  simp only [std]
  have e2 : ((BitVec.ofInt IntKind.i64.bits ((n * 256 : Nat) : Int) ||| BitVec.ofInt IntKind.i64.bits (m : Int)).toNat : Int) = ((n * 256 + m : Nat) : Int) := by
    congr 1
    rw [BitVec.toNat_or]
    have hb : IntKind.i64.bits = 64 := rfl
    rw [hb]
    simp only [BitVec.ofInt_natCast, BitVec.toNat_ofNat]
    rw [Nat.mod_eq_of_lt (by omega), Nat.mod_eq_of_lt (by omega)]
    have := Nat.shiftLeft_add_eq_or_of_lt (show m < 2 ^ 8 by omega) n
    rw [Nat.shiftLeft_eq] at this
    have e : (2 : Nat) ^ 8 = 256 := by decide
    rw [e] at this
    exact this.symm
  rw [e2, wrap_of (by omega) (by omega)]
  omega
theorem d_true {p : Prop} [Decidable p] : (decide p = true) = p := by simp
theorem d_false {p : Prop} [Decidable p] : (decide p = false) = ¬ p := by simp
end Go.Sx
