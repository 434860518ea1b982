import Derived.Test.YtkodnhngllfemaaGreatDoorB1
import Derived.Maps.AppendAt
import Derived.Laws.CopyRow
import Derived.WalkLawsBesides
set_option linter.unusedVariables false
set_option linter.unusedSimpArgs false
namespace Go.Proofs.YtkodnhngllfemaaGreatDoor
open Go
def tAgg (P : Program) (t : TypeId) : Option Bool := match P.underlying t with | some (.struct _) | some (.array ..) => some true | some _ => some false | none => none
def Zhb (P : Program) (t : TypeId) : Option Nat := (P.info? t).map (·.size)
def tZero (P : Program) (t : TypeId) : Option Value := (P.info? t).bind (·.zero)
def tBytes (P : Program) (t : TypeId) : Option Nat := (P.info? t).map (·.bytes)
def fOff (P : Program) (s i : Nat) : Option Nat := match P.underlying s with
  | some (.struct fs) => (fs[i]?).bind fun f => (P.info? f.type).bind fun k => if k.size = 0 then none else some f.offset
  | _ => none
theorem Zf1 (b o n : Nat) : (⟨b, o, none⟩ : Addr).add n = ⟨b, o + n, none⟩ := by unfold Addr.add; split <;> simp_all
section
variable {P : Program} {E : Env} {w w' : World} {d : Option Tmp} {ty : TypeId} {ps : String} {af : Array Edge} {g : Option (Nat × Bool)}
theorem run_isAgg {t : TypeId} {b : Bool} (h : tAgg P t = some b) (w : World) : (isAgg t).run P w = .ok b w := by
  unfold tAgg at h
  unfold isAgg
  cases hu : P.underlying t with
  | none => rw [hu] at h; simp at h
  | some d =>
    rw [hu] at h
    rw [Sem.run_bind, run_underlying hu w]
    cases d <;> simp_all
theorem Z83 {t : TypeId} {n : Nat} (h : Zhb P t = some n) (w : World) : (sizeOf t).run P w = .ok n w := by
  unfold Zhb at h
  cases hi : P.info? t with
  | none => rw [hi] at h; simp at h
  | some i => rw [hi] at h; simp at h; simp [sizeOf, typeInfo, hi, h]
theorem run_zero {t : TypeId} {v : Value} (h : tZero P t = some v) (w : World) : (zeroValue t).run P w = .ok v w := by
  unfold tZero at h
  cases hi : P.info? t with
  | none => rw [hi] at h; simp at h
  | some i => rw [hi] at h; simp at h; simp [zeroValue, typeInfo, hi, h]
theorem Zu {x : Operand} {v : Value} (h : ev E x = some v) : OV P ⟨d, .move x, ty, ps, af, g⟩ E w v w := fun n a ha => by
  simp [execOp, ha.ev h]
theorem ov_assign {x : Operand} {v : Value} (h : ev E x = some v) : OV P ⟨d, .assign x, ty, ps, af, g⟩ E w v w := fun n a ha => by
  simp [execOp, ha.ev h]
theorem Zh {c x y : Operand} {v : Value} (hc : ev E c = some (.bool true)) (h : ev E x = some v) : OV P ⟨d, .pick c x y, ty, ps, af, g⟩ E w v w := fun n a ha => by
  simp [execOp, ha.ev hc, ha.ev h, asBool]
theorem Zg {c x y : Operand} {v : Value} (hc : ev E c = some (.bool false)) (h : ev E y = some v) : OV P ⟨d, .pick c x y, ty, ps, af, g⟩ E w v w := fun n a ha => by
  simp [execOp, ha.ev hc, ha.ev h, asBool]
theorem Z3c {x : Operand} {t : TypeId} {b : Bool} (h : ev E x = some (.bool b)) : OV P ⟨d, .unOp .not t x, ty, ps, af, g⟩ E w (.bool (!b)) w := fun n a ha => by
  simp [execOp, ha.ev h, Op.unary]
theorem ov_neg {x : Operand} {t : TypeId} {k : IntKind} {a : Int} (h : ev E x = some (.int k a)) : OV P ⟨d, .unOp .neg t x, ty, ps, af, g⟩ E w (.int k (k.wrap (0 - a))) w := fun n ac ha => by
  simp [execOp, ha.ev h, Op.unary, Op.intArith]
theorem Zs {x : Operand} {ad : Addr} (h : ev E x = some (.pointer (some ad))) : OV P ⟨d, .nilCheck x, ty, ps, af, g⟩ E w (.pointer (some ad)) w := fun n a ha => by
  simp [execOp, ha.ev h]
theorem Z0c {x : Operand} {i : Nat} {vs : Array Value} {v : Value} (h : ev E x = some (.tuple vs)) (hi : vs[i]? = some v) : OV P ⟨d, .extract x i, ty, ps, af, g⟩ E w v w := fun n a ha => by
  simp [execOp, ha.ev h, Instr.extract, hi]
theorem map_ev {n : NS} {a : Act} (ha : At n E a) {cs : List Operand} {vs : List Value} (h : cs.map (ev E) = vs.map some) : cs.map a.eval = vs := by
  induction cs generalizing vs with
  | nil => cases vs <;> simp_all
  | cons x l ih =>
    cases vs with
    | nil => simp at h
    | cons v m =>
      simp only [List.map_cons, List.cons.injEq] at h ⊢
      exact ⟨ha.ev h.1, ih h.2⟩
theorem ov_makeFunc {f : FuncId} {cs : List Operand} {vs : List Value} (h : cs.map (ev E) = vs.map some) : OV P ⟨d, .makeFunc (.func f) #[] cs.toArray, ty, ps, af, g⟩ E w (.func (.func f) #[] vs.toArray) w := fun n a ha => by
  simp [execOp, Instr.makeFunc, map_ev ha h]
section
variable {x y : Operand} {t u : TypeId} {k k' : IntKind} {a b : Int} (h : ev E x = some (.int k a)) (h' : ev E y = some (.int k b))
include h h'
theorem Z3n : OV P ⟨d, .binOp .add t x y u, ty, ps, af, g⟩ E w (.int k (k.wrap (a + b))) w := fun n ac ha => by
  simp [execOp, ha.ev h, ha.ev h', binOp, Op.intArith, eqGuard]
theorem ov_sub : OV P ⟨d, .binOp .sub t x y u, ty, ps, af, g⟩ E w (.int k (k.wrap (a - b))) w := fun n ac ha => by
  simp [execOp, ha.ev h, ha.ev h', binOp, Op.intArith, eqGuard]
theorem Z4n : OV P ⟨d, .binOp .eql t x y u, ty, ps, af, g⟩ E w (.bool (a == b)) w := fun n ac ha => by
  simp [execOp, ha.ev h, ha.ev h', binOp, Op.intCmp, eqGuard]
theorem Z7e : OV P ⟨d, .binOp .neq t x y u, ty, ps, af, g⟩ E w (.bool (a != b)) w := fun n ac ha => by
  simp [execOp, ha.ev h, ha.ev h', binOp, Op.intCmp, eqGuard]
theorem Zbt : OV P ⟨d, .binOp .lss t x y u, ty, ps, af, g⟩ E w (.bool (decide (a < b))) w := fun n ac ha => by
  simp [execOp, ha.ev h, ha.ev h', binOp, Op.intCmp, eqGuard]
theorem ov_leq : OV P ⟨d, .binOp .leq t x y u, ty, ps, af, g⟩ E w (.bool (decide (a ≤ b))) w := fun n ac ha => by
  simp [execOp, ha.ev h, ha.ev h', binOp, Op.intCmp, eqGuard]
theorem Ze7 : OV P ⟨d, .binOp .gtr t x y u, ty, ps, af, g⟩ E w (.bool (decide (b < a))) w := fun n ac ha => by
  simp [execOp, ha.ev h, ha.ev h', binOp, Op.intCmp, eqGuard]
theorem ov_geq : OV P ⟨d, .binOp .geq t x y u, ty, ps, af, g⟩ E w (.bool (decide (b ≤ a))) w := fun n ac ha => by
  simp [execOp, ha.ev h, ha.ev h', binOp, Op.intCmp, eqGuard]
end
theorem ov_eqlB {x y : Operand} {t u : TypeId} {a b : Bool} (h : ev E x = some (.bool a)) (h' : ev E y = some (.bool b)) (ht : P.underlying t = some .bool) : OV P ⟨d, .binOp .eql t x y u, ty, ps, af, g⟩ E w (.bool (a == b)) w := fun n ac ha => by
  simp [execOp, ha.ev h, ha.ev h', binOp, eqGuard, run_equal_bool w t a b ht]
theorem ov_neqB {x y : Operand} {t u : TypeId} {a b : Bool} (h : ev E x = some (.bool a)) (h' : ev E y = some (.bool b)) (ht : P.underlying t = some .bool) : OV P ⟨d, .binOp .neq t x y u, ty, ps, af, g⟩ E w (.bool (!(a == b))) w := fun n ac ha => by
  simp [execOp, ha.ev h, ha.ev h', binOp, eqGuard, run_equal_bool w t a b ht]
def bEq (a b : ByteArray) : Bool := a.data.toList == b.data.toList
theorem bEq_def (a b : ByteArray) : bEq a b = (a.toList == b.toList) := by rw [ByteArray.toList_eq, ByteArray.toList_eq]; rfl
section
variable {x y : Operand} {t u : TypeId} {a b : ByteArray} (h : ev E x = some (.string a)) (h' : ev E y = some (.string b))
include h h'
theorem Z0d : OV P ⟨d, .binOp .eql t x y u, ty, ps, af, g⟩ E w (.bool (bEq a b)) w := fun n ac ha => by
  simp [execOp, ha.ev h, ha.ev h', binOp, Op.stringOp, eqGuard, bEq_def]
theorem ov_neqS : OV P ⟨d, .binOp .neq t x y u, ty, ps, af, g⟩ E w (.bool (!bEq a b)) w := fun n ac ha => by
  simp [execOp, ha.ev h, ha.ev h', binOp, Op.stringOp, eqGuard, bEq_def]
end
theorem Z95 {x : Operand} {t : TypeId} {s : ByteArray} (h : ev E x = some (.string s)) (ht : P.underlying t = some .string) : OV P ⟨d, .call ⟨.builtin .len, #[x], #[t]⟩, ty, ps, af, g⟩ E w (.int .i64 s.size) w := fun n a ha => by
  simp [execOp, resolve, invoke, builtin, Builtin.len_, ha.ev h, run_underlying ht w, goInt]
theorem Z1n {x : Operand} {t : TypeId} {A : Option Addr} {m c : Nat} {e : TypeId} (h : ev E x = some (.slice A m c)) (ht : P.underlying t = some (.slice e)) : OV P ⟨d, .call ⟨.builtin .len, #[x], #[t]⟩, ty, ps, af, g⟩ E w (.int .i64 m) w := fun n a ha => by
  simp [execOp, resolve, invoke, builtin, Builtin.len_, ha.ev h, run_underlying ht w, goInt]
theorem Z2 {x : Operand} {s i b o k : Nat} (h : ev E x = some (.pointer (some ⟨b, o, none⟩))) (hf : fOff P s i = some k) : OV P ⟨d, .fieldAddr s x i, ty, ps, af, g⟩ E w (.pointer (some ⟨b, o + k, none⟩)) w := fun n a ha => by
  unfold fOff at hf
  split at hf
  · rename_i fs hu
    obtain ⟨f, hf1, hf2⟩ := Option.bind_eq_some_iff.1 hf
    obtain ⟨ti, hti, hz⟩ := Option.bind_eq_some_iff.1 hf2
    split at hz
    · cases hz
    · rename_i hne
      cases hz
      simp only [execOp, ha.ev h, Instr.fieldAt, Sem.run_bind, run_underlying hu w, Result.andThen_ok, hf1, Instr.sureAddr, Sem.run_pure, fieldPlace, sizeOf, typeInfo, run_program, hti, hne, if_false]
      simp [Zf1]
  · cases hf
theorem Z07 {x y : Operand} {t e b o m c z : Nat} {i : Int} (h : ev E x = some (.slice (some ⟨b, o, none⟩) m c)) (hy : ev E y = some (.int .i64 i)) (ht : P.underlying t = some (.slice e)) (hz : Zhb P e = some z) (h0 : 0 ≤ i) (h1 : i < m) :
    OV P ⟨d, .indexAddr t x y, ty, ps, af, g⟩ E w (.pointer (some ⟨b, o + i.toNat * z, none⟩)) w := fun n a ha => by
  simp only [execOp, ha.ev h, ha.ev hy, Instr.indexAt, asIntOf, Sem.run_bind, Sem.run_pure, Result.andThen_ok, run_underlying ht w]
  simp [h0, h1, Z83 hz, Zf1]
theorem ov_indexS {x y : Operand} {t : TypeId} {s : ByteArray} {i : Int} (h : ev E x = some (.string s)) (hy : ev E y = some (.int .i64 i)) (ht : P.underlying t = some .string) (h0 : 0 ≤ i) (h1 : i.toNat < s.size) :
    OV P ⟨d, .index t x y, ty, ps, af, g⟩ E w (.int .u8 (s[i.toNat]'h1).toNat) w := fun n a ha => by
  simp only [execOp, ha.ev h, ha.ev hy, Instr.index, asIntOf, Sem.run_bind, Sem.run_pure, Result.andThen_ok, run_underlying ht w]
  simp [h0, h1]
theorem Zc {x : Operand} {t : TypeId} {ad : Addr} {v : Value} (h : ev E x = some (.pointer (some ad))) (ht : tAgg P t = some false) (hc : w.cell? ad = some v) : OV P ⟨d, .load t x, ty, ps, af, g⟩ E w v w := fun n a ha => by
  simp only [execOp, ha.ev h, Instr.loadAt, Instr.sureAddr, Sem.run_bind, Sem.run_pure, Result.andThen_ok, loadVar, run_isAgg ht]
  simp [hc]
theorem Z16 {x : Operand} {t b o : Nat} {cs : List Value} (h : ev E x = some (.pointer (some ⟨b, o, none⟩))) (ht : tAgg P t = some true) (hs : Zhb P t = some cs.length) (hc : ∀ j v, cs[j]? = some v → w.cell? ⟨b, o + j, none⟩ = some v) :
    OV P ⟨d, .load t x, ty, ps, af, g⟩ E w (.agg cs.toArray) w := fun n a ha => by
  have hl := run_loadCells_list (P := P) w ⟨b, o, none⟩ cs (fun j v hv => by rw [Zf1]; exact hc j v hv)
  simp only [execOp, ha.ev h, Instr.loadAt, Instr.sureAddr, Sem.run_bind, Sem.run_pure, Result.andThen_ok, loadVar, run_isAgg ht, Z83 hs, if_true, hl]
end
end Go.Proofs.YtkodnhngllfemaaGreatDoor
