/- The logic's rules for operations (used by the claims of this seat). -/
import Derived.Test.YtfmamihoaklogaaTc
namespace Go.Proofs.Ytfmamihoaklogaa.T
open Go.RowKit
set_option linter.unusedVariables false
set_option linter.unusedSimpArgs false

section
variable {P : Program} {w0 : World} {t : Fr} {m : List Itm} {x y z : Operand} {T T' : TypeId}

theorem Yv.mk {op : Op} {v : Value} (h : ∀ (ρ : Operand → Value) (dst : Option Tmp) (ty : TypeId) (pos : String) (aft : Array Edge) (g : Option (Nat × Bool)) w, (∀ x ∈ op.operands, ρ x = ev t x) → Mem w0 m w →
    (execOp ρ { dst, op, type := ty, pos, after := aft, guard := g }).run P w = .ok (.value v) w) : Yv P w0 t m op v := fun ρ o w ho he hm => by
  obtain ⟨dst, op, ty, pos, aft, g⟩ := o
  subst ho
  exact h ρ dst ty pos aft g w he hm

theorem Y.move {v : Value} (h : ev t x = v) : Yv P w0 t m (.move x) v := Yv.mk fun ρ _ _ _ _ _ w he _ => by
  have h1 := he x (by simp [Op.operands])
  simp [execOp, h1, h]
theorem Y.assign {v : Value} (h : ev t x = v) : Yv P w0 t m (.assign x) v := Yv.mk fun ρ _ _ _ _ _ w he _ => by
  have h1 := he x (by simp [Op.operands])
  simp [execOp, h1, h]
theorem Y.pick_t {v : Value} (hc : ev t x = .bool true) (h : ev t y = v) : Yv P w0 t m (.pick x y z) v := Yv.mk fun ρ _ _ _ _ _ w he _ => by
  have h1 := he x (by simp [Op.operands])
  have h2 := he y (by simp [Op.operands])
  simp [execOp, h1, h2, h, hc, asBool]
theorem Y.pick_f {v : Value} (hc : ev t x = .bool false) (h : ev t z = v) : Yv P w0 t m (.pick x y z) v := Yv.mk fun ρ _ _ _ _ _ w he _ => by
  have h1 := he x (by simp [Op.operands])
  have h2 := he z (by simp [Op.operands])
  simp [execOp, h1, h2, h, hc, asBool]
theorem Y.not {b : Bool} (h : ev t x = .bool b) : Yv P w0 t m (.unOp .not T x) (.bool (!b)) := Yv.mk fun ρ _ _ _ _ _ w he _ => by
  have h1 := he x (by simp [Op.operands])
  simp [execOp, h1, h, Op.unary]
section
variable {k : IntKind} {a b : Int}
theorem Y.add (hx : ev t x = .int k a) (hy : ev t y = .int k b) : Yv P w0 t m (.binOp .add T x y T') (.int k (k.wrap (a + b))) := Yv.mk fun ρ _ _ _ _ _ w he _ => by
  have h1 := he x (by simp [Op.operands]); have h2 := he y (by simp [Op.operands])
  simp [execOp, h1, h2, hx, hy, eqGuard, binOp, Op.intArith]
theorem Y.sub (hx : ev t x = .int k a) (hy : ev t y = .int k b) : Yv P w0 t m (.binOp .sub T x y T') (.int k (k.wrap (a - b))) := Yv.mk fun ρ _ _ _ _ _ w he _ => by
  have h1 := he x (by simp [Op.operands]); have h2 := he y (by simp [Op.operands])
  simp [execOp, h1, h2, hx, hy, eqGuard, binOp, Op.intArith]
theorem Y.mul (hx : ev t x = .int k a) (hy : ev t y = .int k b) : Yv P w0 t m (.binOp .mul T x y T') (.int k (k.wrap (a * b))) := Yv.mk fun ρ _ _ _ _ _ w he _ => by
  have h1 := he x (by simp [Op.operands]); have h2 := he y (by simp [Op.operands])
  simp [execOp, h1, h2, hx, hy, eqGuard, binOp, Op.intArith]
theorem Y.and (hx : ev t x = .int k a) (hy : ev t y = .int k b) : Yv P w0 t m (.binOp .and T x y T') (.int k (bits .and k a b)) := Yv.mk fun ρ _ _ _ _ _ w he _ => by
  have h1 := he x (by simp [Op.operands]); have h2 := he y (by simp [Op.operands])
  simp [execOp, h1, h2, hx, hy, eqGuard, binOp, intBits_and]
theorem Y.or (hx : ev t x = .int k a) (hy : ev t y = .int k b) : Yv P w0 t m (.binOp .or T x y T') (.int k (bits .or k a b)) := Yv.mk fun ρ _ _ _ _ _ w he _ => by
  have h1 := he x (by simp [Op.operands]); have h2 := he y (by simp [Op.operands])
  simp [execOp, h1, h2, hx, hy, eqGuard, binOp, intBits_or]
theorem Y.xor (hx : ev t x = .int k a) (hy : ev t y = .int k b) : Yv P w0 t m (.binOp .xor T x y T') (.int k (bits .xor k a b)) := Yv.mk fun ρ _ _ _ _ _ w he _ => by
  have h1 := he x (by simp [Op.operands]); have h2 := he y (by simp [Op.operands])
  simp [execOp, h1, h2, hx, hy, eqGuard, binOp, intBits_xor]
theorem Y.andNot (hx : ev t x = .int k a) (hy : ev t y = .int k b) : Yv P w0 t m (.binOp .andNot T x y T') (.int k (bits .andNot k a b)) := Yv.mk fun ρ _ _ _ _ _ w he _ => by
  have h1 := he x (by simp [Op.operands]); have h2 := he y (by simp [Op.operands])
  simp [execOp, h1, h2, hx, hy, eqGuard, binOp, intBits_andNot]
theorem Y.rem (hx : ev t x = .int k a) (hy : ev t y = .int k b) (hb : b ≠ 0) : Yv P w0 t m (.binOp .rem T x y T') (.int k (a.tmod b)) := Yv.mk fun ρ _ _ _ _ _ w he _ => by
  have h1 := he x (by simp [Op.operands]); have h2 := he y (by simp [Op.operands])
  simp [execOp, h1, h2, hx, hy, eqGuard, binOp, Op.intDiv, hb]
theorem Y.quo (hx : ev t x = .int k a) (hy : ev t y = .int k b) (hb : b ≠ 0) : Yv P w0 t m (.binOp .quo T x y T') (.int k (k.wrap (a.tdiv b))) := Yv.mk fun ρ _ _ _ _ _ w he _ => by
  have h1 := he x (by simp [Op.operands]); have h2 := he y (by simp [Op.operands])
  simp [execOp, h1, h2, hx, hy, eqGuard, binOp, Op.intDiv, hb]
theorem Y.lss (hx : ev t x = .int k a) (hy : ev t y = .int k b) : Yv P w0 t m (.binOp .lss T x y T') (.bool (decide (a < b))) := Yv.mk fun ρ _ _ _ _ _ w he _ => by
  have h1 := he x (by simp [Op.operands]); have h2 := he y (by simp [Op.operands])
  simp [execOp, h1, h2, hx, hy, eqGuard, binOp, Op.intCmp]
theorem Y.leq (hx : ev t x = .int k a) (hy : ev t y = .int k b) : Yv P w0 t m (.binOp .leq T x y T') (.bool (decide (a ≤ b))) := Yv.mk fun ρ _ _ _ _ _ w he _ => by
  have h1 := he x (by simp [Op.operands]); have h2 := he y (by simp [Op.operands])
  simp [execOp, h1, h2, hx, hy, eqGuard, binOp, Op.intCmp]
theorem Y.gtr (hx : ev t x = .int k a) (hy : ev t y = .int k b) : Yv P w0 t m (.binOp .gtr T x y T') (.bool (decide (b < a))) := Yv.mk fun ρ _ _ _ _ _ w he _ => by
  have h1 := he x (by simp [Op.operands]); have h2 := he y (by simp [Op.operands])
  simp [execOp, h1, h2, hx, hy, eqGuard, binOp, Op.intCmp]
theorem Y.geq (hx : ev t x = .int k a) (hy : ev t y = .int k b) : Yv P w0 t m (.binOp .geq T x y T') (.bool (decide (b ≤ a))) := Yv.mk fun ρ _ _ _ _ _ w he _ => by
  have h1 := he x (by simp [Op.operands]); have h2 := he y (by simp [Op.operands])
  simp [execOp, h1, h2, hx, hy, eqGuard, binOp, Op.intCmp]
theorem Y.eql (hx : ev t x = .int k a) (hy : ev t y = .int k b) : Yv P w0 t m (.binOp .eql T x y T') (.bool (a == b)) := Yv.mk fun ρ _ _ _ _ _ w he _ => by
  have h1 := he x (by simp [Op.operands]); have h2 := he y (by simp [Op.operands])
  simp [execOp, h1, h2, hx, hy, eqGuard, binOp, Op.intCmp]
theorem Y.neq (hx : ev t x = .int k a) (hy : ev t y = .int k b) : Yv P w0 t m (.binOp .neq T x y T') (.bool (!(a == b))) := Yv.mk fun ρ _ _ _ _ _ w he _ => by
  have h1 := he x (by simp [Op.operands]); have h2 := he y (by simp [Op.operands])
  simp [execOp, h1, h2, hx, hy, eqGuard, binOp, Op.intCmp, bne]
end
theorem equalIn_bool (hT : P.underlying T = some .bool) (d : Nat) (p q : Bool) (w : World) : (Op.equalIn (d + 1) T (.bool p) (.bool q)).run P w = .ok (p == q) w := by
  simp [Op.equalIn, run_underlying hT]
theorem Y.eql_b {p q : Bool} (hx : ev t x = .bool p) (hy : ev t y = .bool q) (hT : P.underlying T = some .bool) : Yv P w0 t m (.binOp .eql T x y T') (.bool (p == q)) := Yv.mk fun ρ _ _ _ _ _ w he _ => by
  have h1 := he x (by simp [Op.operands]); have h2 := he y (by simp [Op.operands])
  have h3 : (Op.equal T (.bool p) (.bool q)).run P w = .ok (p == q) w := equalIn_bool hT 9999 p q w
  simp only [execOp, h1, h2, hx, hy, eqGuard, binOp, Sem.run_bind, Sem.run_pure, Result.andThen_ok, h3]
  simp [h3]
theorem Y.neq_b {p q : Bool} (hx : ev t x = .bool p) (hy : ev t y = .bool q) (hT : P.underlying T = some .bool) : Yv P w0 t m (.binOp .neq T x y T') (.bool (!(p == q))) := Yv.mk fun ρ _ _ _ _ _ w he _ => by
  have h1 := he x (by simp [Op.operands]); have h2 := he y (by simp [Op.operands])
  have h3 : (Op.equal T (.bool p) (.bool q)).run P w = .ok (p == q) w := equalIn_bool hT 9999 p q w
  simp only [execOp, h1, h2, hx, hy, eqGuard, binOp, Sem.run_bind, Sem.run_pure, Result.andThen_ok, h3]
  simp [h3]
theorem Y.eql_s {p q : ByteArray} (hx : ev t x = .string p) (hy : ev t y = .string q) : Yv P w0 t m (.binOp .eql T x y T') (.bool (p.toList == q.toList)) := Yv.mk fun ρ _ _ _ _ _ w he _ => by
  have h1 := he x (by simp [Op.operands]); have h2 := he y (by simp [Op.operands])
  simp [execOp, h1, h2, hx, hy, eqGuard, binOp, Op.stringOp]
theorem Y.neq_s {p q : ByteArray} (hx : ev t x = .string p) (hy : ev t y = .string q) : Yv P w0 t m (.binOp .neq T x y T') (.bool (!(p.toList == q.toList))) := Yv.mk fun ρ _ _ _ _ _ w he _ => by
  have h1 := he x (by simp [Op.operands]); have h2 := he y (by simp [Op.operands])
  simp [execOp, h1, h2, hx, hy, eqGuard, binOp, Op.stringOp]
/-- A shift by whatever count that is not negative. -/
theorem Y.shl {k k' : IntKind} {a b : Int} (hx : ev t x = .int k a) (hy : ev t y = .int k' b) (hb : 0 ≤ b) : Yv P w0 t m (.binOp .shl T x y T') (.int k (k.wrap (a * 2 ^ min b.toNat k.bits))) := Yv.mk fun ρ _ _ _ _ _ w he _ => by
  have h1 := he x (by simp [Op.operands]); have h2 := he y (by simp [Op.operands])
  have hn : ¬ b < 0 := by omega
  simp [execOp, h1, h2, hx, hy, eqGuard, binOp, Op.shift, hn]
theorem Y.shr {k k' : IntKind} {a b : Int} (hx : ev t x = .int k a) (hy : ev t y = .int k' b) (hb : 0 ≤ b) : Yv P w0 t m (.binOp .shr T x y T') (.int k (a / 2 ^ min b.toNat k.bits)) := Yv.mk fun ρ _ _ _ _ _ w he _ => by
  have h1 := he x (by simp [Op.operands]); have h2 := he y (by simp [Op.operands])
  have hn : ¬ b < 0 := by omega
  have hp : (0 : Int) ≤ 2 ^ min b.toNat k.bits := Int.le_of_lt (Int.pow_pos (by decide))
  simp [execOp, h1, h2, hx, hy, eqGuard, binOp, Op.shift, hn, Int.fdiv_eq_ediv_of_nonneg _ hp]
theorem Y.conv {k k' : IntKind} {a : Int} {d : TypeDesc} (hx : ev t x = .int k' a) (h1 : P.underlying T = some d) (h2 : P.underlying T' = some (.int k)) : Yv P w0 t m (.convert T T' x) (.int k (k.wrap a)) := Yv.mk fun ρ _ _ _ _ _ w he _ => by
  have h := he x (by simp [Op.operands])
  simp [execOp, h, hx, convert, run_underlying h1, run_underlying h2, Conv.intToInt]
theorem Y.conv_e {k k' : IntKind} {a c : Int} {d : TypeDesc} (hx : ev t x = .int k' a) (h1 : P.underlying T = some d) (h2 : P.underlying T' = some (.int k)) (e : k.wrap a = c) : Yv P w0 t m (.convert T T' x) (.int k c) := e ▸ Y.conv hx h1 h2
theorem Y.add_e {k : IntKind} {a b c : Int} (hx : ev t x = .int k a) (hy : ev t y = .int k b) (e : k.wrap (a + b) = c) : Yv P w0 t m (.binOp .add T x y T') (.int k c) := e ▸ Y.add hx hy
theorem Y.sub_e {k : IntKind} {a b c : Int} (hx : ev t x = .int k a) (hy : ev t y = .int k b) (e : k.wrap (a - b) = c) : Yv P w0 t m (.binOp .sub T x y T') (.int k c) := e ▸ Y.sub hx hy
theorem Y.mul_e {k : IntKind} {a b c : Int} (hx : ev t x = .int k a) (hy : ev t y = .int k b) (e : k.wrap (a * b) = c) : Yv P w0 t m (.binOp .mul T x y T') (.int k c) := e ▸ Y.mul hx hy
/-- Integers' operations, all by one table. -/
def binI (o : BinOp) (k : IntKind) (a b : Int) : Option Value := match o with
  | .add => some (.int k (k.wrap (a + b)))
  | .sub => some (.int k (k.wrap (a - b)))
  | .mul => some (.int k (k.wrap (a * b)))
  | .and => some (.int k (bits .and k a b))
  | .or => some (.int k (bits .or k a b))
  | .xor => some (.int k (bits .xor k a b))
  | .andNot => some (.int k (bits .andNot k a b))
  | .lss => some (.bool (decide (a < b)))
  | .leq => some (.bool (decide (a ≤ b)))
  | .gtr => some (.bool (decide (b < a)))
  | .geq => some (.bool (decide (b ≤ a)))
  | .eql => some (.bool (a == b))
  | .neq => some (.bool (!(a == b)))
  | _ => none
def binW (o : BinOp) (a b : Int) : Option Int := match o with
  | .add => some (a + b)
  | .sub => some (a - b)
  | .mul => some (a * b)
  | _ => none
theorem Y.bin {o : BinOp} {k : IntKind} {a b : Int} {v : Value} (hx : ev t x = .int k a) (hy : ev t y = .int k b) (hf : binI o k a b = some v) : Yv P w0 t m (.binOp o T x y T') v := by
  cases o <;> simp only [binI, Option.some.injEq, reduceCtorEq] at hf <;> subst hf
  · exact Y.add hx hy
  · exact Y.sub hx hy
  · exact Y.mul hx hy
  · exact Y.and hx hy
  · exact Y.or hx hy
  · exact Y.xor hx hy
  · exact Y.andNot hx hy
  · exact Y.eql hx hy
  · exact Y.neq hx hy
  · exact Y.lss hx hy
  · exact Y.leq hx hy
  · exact Y.gtr hx hy
  · exact Y.geq hx hy
theorem Y.bin_e {o : BinOp} {k : IntKind} {a b c c' : Int} (hx : ev t x = .int k a) (hy : ev t y = .int k b) (hf : binW o a b = some c) (e : k.wrap c = c') : Yv P w0 t m (.binOp o T x y T') (.int k c') := by
  subst e
  cases o <;> simp only [binW, Option.some.injEq, reduceCtorEq] at hf <;> subst hf
  · exact Y.add hx hy
  · exact Y.sub hx hy
  · exact Y.mul hx hy
theorem Y.and_e {k : IntKind} {a b c : Int} (hx : ev t x = .int k a) (hy : ev t y = .int k b) (e : bits .and k a b = c) : Yv P w0 t m (.binOp .and T x y T') (.int k c) := e ▸ Y.and hx hy
theorem Y.or_e {k : IntKind} {a b c : Int} (hx : ev t x = .int k a) (hy : ev t y = .int k b) (e : bits .or k a b = c) : Yv P w0 t m (.binOp .or T x y T') (.int k c) := e ▸ Y.or hx hy
theorem Y.shr_e {k k' : IntKind} {a b c : Int} (hx : ev t x = .int k a) (hy : ev t y = .int k' b) (hb : 0 ≤ b) (e : a / 2 ^ min b.toNat k.bits = c) : Yv P w0 t m (.binOp .shr T x y T') (.int k c) := e ▸ Y.shr hx hy hb
theorem Y.shl_e {k k' : IntKind} {a b c : Int} (hx : ev t x = .int k a) (hy : ev t y = .int k' b) (hb : 0 ≤ b) (e : k.wrap (a * 2 ^ min b.toNat k.bits) = c) : Yv P w0 t m (.binOp .shl T x y T') (.int k c) := e ▸ Y.shl hx hy hb
theorem Y.nil {a : Addr} (hx : ev t x = .pointer (some a)) : Yv P w0 t m (.nilCheck x) (.pointer (some a)) := Yv.mk fun ρ _ _ _ _ _ w he _ => by
  have h := he x (by simp [Op.operands])
  simp [execOp, h, hx]
theorem Y.extract {vs : Array Value} {i : Nat} {v : Value} (hx : ev t x = .tuple vs) (h : vs[i]? = some v) : Yv P w0 t m (.extract x i) v := Yv.mk fun ρ _ _ _ _ _ w he _ => by
  have h1 := he x (by simp [Op.operands])
  simp [execOp, h1, hx, Instr.extract, h]
theorem Y.extractL {vs : Array Value} {i : Nat} {v : Value} (hx : ev t x = .tuple vs) (h : vs.toList[i]? = some v) : Yv P w0 t m (.extract x i) v := Y.extract hx (by simpa using h)
theorem Y.len_l {a : Option Addr} {n c : Nat} {T e : TypeId} {ts : Array TypeId} (hx : ev t x = .slice a n c) (hT : ts[0]? = some T) (hu : P.underlying T = some (.slice e)) : Yv P w0 t m (.call { callee := .builtin .len, args := #[x], argTypes := ts }) (.int .i64 (n : Int)) := Yv.mk fun ρ _ _ _ _ _ w he _ => by
  have h1 := he x (by simp [Op.operands, Call.operands])
  simp [execOp, resolve, invoke, builtin, Builtin.len_, h1, hx, hT, run_underlying hu, Sem.run_bind, goInt]
theorem Y.len_s {s : ByteArray} {T : TypeId} {ts : Array TypeId} (hx : ev t x = .string s) (hT : ts[0]? = some T) (hu : P.underlying T = some .string) : Yv P w0 t m (.call { callee := .builtin .len, args := #[x], argTypes := ts }) (.int .i64 (s.size : Int)) := Yv.mk fun ρ _ _ _ _ _ w he _ => by
  have h1 := he x (by simp [Op.operands, Call.operands])
  simp [execOp, resolve, invoke, builtin, Builtin.len_, h1, hx, hT, run_underlying hu, Sem.run_bind, goInt]
theorem Y.max_i {k k' : IntKind} {a b : Int} {ts : Array TypeId} (hx : ev t x = .int k a) (hy : ev t y = .int k' b) : Yv P w0 t m (.call { callee := .builtin .max, args := #[x, y], argTypes := ts }) (.int k (if b > a then b else a)) := Yv.mk fun ρ _ _ _ _ _ w he _ => by
  have h1 := he x (by simp [Op.operands, Call.operands]); have h2 := he y (by simp [Op.operands, Call.operands])
  simp [execOp, resolve, invoke, builtin, Builtin.max_, Builtin.max2, h1, h2, hx, hy, Sem.run_bind]
theorem Y.min_i {k k' : IntKind} {a b : Int} {ts : Array TypeId} (hx : ev t x = .int k a) (hy : ev t y = .int k' b) : Yv P w0 t m (.call { callee := .builtin .min, args := #[x, y], argTypes := ts }) (.int k (if b < a then b else a)) := Yv.mk fun ρ _ _ _ _ _ w he _ => by
  have h1 := he x (by simp [Op.operands, Call.operands]); have h2 := he y (by simp [Op.operands, Call.operands])
  simp [execOp, resolve, invoke, builtin, Builtin.min_, Builtin.min2, h1, h2, hx, hy, Sem.run_bind]
theorem Y.func {fn : Go.Fn} {fs cs : Array Operand} {vs us : Array Value} (h1 : fs.toList.map (ev t) = vs.toList) (h2 : cs.toList.map (ev t) = us.toList) : Yv P w0 t m (.makeFunc fn fs cs) (.func fn vs us) := Yv.mk fun ρ _ _ _ _ _ w he _ => by
  have e1 : fs.map ρ = vs := by
    apply Array.ext'
    rw [← h1, Array.toList_map]
    exact List.map_congr_left fun x hx => he x (by simp [Op.operands]; exact .inl (by simpa using hx))
  have e2 : cs.map ρ = us := by
    apply Array.ext'
    rw [← h2, Array.toList_map]
    exact List.map_congr_left fun x hx => he x (by simp [Op.operands]; exact .inr (by simpa using hx))
  simp [execOp, Instr.makeFunc, e1, e2]
theorem Y.build {ps : Array (Nat × Operand)} {cells : Array Value} (h : P.built T (ps.toList.map fun q => (q.1, ev t q.2)) = some cells) : Yv P w0 t m (.build T ps) (.agg cells) := Yv.mk fun ρ _ _ _ _ _ w he _ => by
  have e1 : (ps.map fun (i, x) => (i, ρ x)).toList = ps.toList.map fun q => (q.1, ev t q.2) := by
    rw [Array.toList_map]
    exact List.map_congr_left fun q hq => by
      have := he q.2 (by simp [Op.operands]; exact ⟨q.1, by simpa using hq⟩)
      simp [this]
  simp only [execOp, Sem.run_bind, run_build w T _ cells (by rw [e1]; exact h), Result.andThen_ok]
  rfl
/-! ### By the value's kind -/
theorem Y.move_i {k : IntKind} {a : Int} (h : ev t x = .int k a) : Yv P w0 t m (.move x) (.int k a) := Y.move h
theorem Y.assign_i {k : IntKind} {a : Int} (h : ev t x = .int k a) : Yv P w0 t m (.assign x) (.int k a) := Y.assign h
theorem Y.pick_t_i {k : IntKind} {a : Int} (hc : ev t x = .bool true) (h : ev t y = .int k a) : Yv P w0 t m (.pick x y z) (.int k a) := Y.pick_t hc h
theorem Y.pick_f_i {k : IntKind} {a : Int} (hc : ev t x = .bool false) (h : ev t z = .int k a) : Yv P w0 t m (.pick x y z) (.int k a) := Y.pick_f hc h
theorem Y.extract_i {us : Array Value} {i : Nat} {k : IntKind} {a : Int} (hx : ev t x = .tuple us) (h : us.toList[i]? = some (.int k a)) : Yv P w0 t m (.extract x i) (.int k a) := Y.extract hx (by simpa using h)
theorem Y.move_b {c : Bool} (h : ev t x = .bool c) : Yv P w0 t m (.move x) (.bool c) := Y.move h
theorem Y.assign_b {c : Bool} (h : ev t x = .bool c) : Yv P w0 t m (.assign x) (.bool c) := Y.assign h
theorem Y.pick_t_b {c : Bool} (hc : ev t x = .bool true) (h : ev t y = .bool c) : Yv P w0 t m (.pick x y z) (.bool c) := Y.pick_t hc h
theorem Y.pick_f_b {c : Bool} (hc : ev t x = .bool false) (h : ev t z = .bool c) : Yv P w0 t m (.pick x y z) (.bool c) := Y.pick_f hc h
theorem Y.extract_b {us : Array Value} {i : Nat} {c : Bool} (hx : ev t x = .tuple us) (h : us.toList[i]? = some (.bool c)) : Yv P w0 t m (.extract x i) (.bool c) := Y.extract hx (by simpa using h)
theorem Y.move_p {a : Addr} (h : ev t x = .pointer (some a)) : Yv P w0 t m (.move x) (.pointer (some a)) := Y.move h
theorem Y.assign_p {a : Addr} (h : ev t x = .pointer (some a)) : Yv P w0 t m (.assign x) (.pointer (some a)) := Y.assign h
theorem Y.pick_t_p {a : Addr} (hc : ev t x = .bool true) (h : ev t y = .pointer (some a)) : Yv P w0 t m (.pick x y z) (.pointer (some a)) := Y.pick_t hc h
theorem Y.pick_f_p {a : Addr} (hc : ev t x = .bool false) (h : ev t z = .pointer (some a)) : Yv P w0 t m (.pick x y z) (.pointer (some a)) := Y.pick_f hc h
theorem Y.extract_p {us : Array Value} {i : Nat} {a : Addr} (hx : ev t x = .tuple us) (h : us.toList[i]? = some (.pointer (some a))) : Yv P w0 t m (.extract x i) (.pointer (some a)) := Y.extract hx (by simpa using h)
theorem Y.move_a {cs : Array Value} (h : ev t x = .agg cs) : Yv P w0 t m (.move x) (.agg cs) := Y.move h
theorem Y.assign_a {cs : Array Value} (h : ev t x = .agg cs) : Yv P w0 t m (.assign x) (.agg cs) := Y.assign h
theorem Y.pick_t_a {cs : Array Value} (hc : ev t x = .bool true) (h : ev t y = .agg cs) : Yv P w0 t m (.pick x y z) (.agg cs) := Y.pick_t hc h
theorem Y.pick_f_a {cs : Array Value} (hc : ev t x = .bool false) (h : ev t z = .agg cs) : Yv P w0 t m (.pick x y z) (.agg cs) := Y.pick_f hc h
theorem Y.extract_a {us : Array Value} {i : Nat} {cs : Array Value} (hx : ev t x = .tuple us) (h : us.toList[i]? = some (.agg cs)) : Yv P w0 t m (.extract x i) (.agg cs) := Y.extract hx (by simpa using h)
theorem Y.move_s {s : ByteArray} (h : ev t x = .string s) : Yv P w0 t m (.move x) (.string s) := Y.move h
theorem Y.assign_s {s : ByteArray} (h : ev t x = .string s) : Yv P w0 t m (.assign x) (.string s) := Y.assign h
theorem Y.pick_t_s {s : ByteArray} (hc : ev t x = .bool true) (h : ev t y = .string s) : Yv P w0 t m (.pick x y z) (.string s) := Y.pick_t hc h
theorem Y.pick_f_s {s : ByteArray} (hc : ev t x = .bool false) (h : ev t z = .string s) : Yv P w0 t m (.pick x y z) (.string s) := Y.pick_f hc h
theorem Y.extract_s {us : Array Value} {i : Nat} {s : ByteArray} (hx : ev t x = .tuple us) (h : us.toList[i]? = some (.string s)) : Yv P w0 t m (.extract x i) (.string s) := Y.extract hx (by simpa using h)
theorem Y.move_l {a : Option Addr} {n c : Nat} (h : ev t x = .slice a n c) : Yv P w0 t m (.move x) (.slice a n c) := Y.move h
theorem Y.assign_l {a : Option Addr} {n c : Nat} (h : ev t x = .slice a n c) : Yv P w0 t m (.assign x) (.slice a n c) := Y.assign h
theorem Y.pick_t_l {a : Option Addr} {n c : Nat} (hc : ev t x = .bool true) (h : ev t y = .slice a n c) : Yv P w0 t m (.pick x y z) (.slice a n c) := Y.pick_t hc h
theorem Y.pick_f_l {a : Option Addr} {n c : Nat} (hc : ev t x = .bool false) (h : ev t z = .slice a n c) : Yv P w0 t m (.pick x y z) (.slice a n c) := Y.pick_f hc h
theorem Y.extract_l {us : Array Value} {i : Nat} {a : Option Addr} {n c : Nat} (hx : ev t x = .tuple us) (h : us.toList[i]? = some (.slice a n c)) : Yv P w0 t m (.extract x i) (.slice a n c) := Y.extract hx (by simpa using h)
theorem Y.move_f {f : Go.Fn} {us vs : Array Value} (h : ev t x = .func f us vs) : Yv P w0 t m (.move x) (.func f us vs) := Y.move h
theorem Y.assign_f {f : Go.Fn} {us vs : Array Value} (h : ev t x = .func f us vs) : Yv P w0 t m (.assign x) (.func f us vs) := Y.assign h
theorem Y.pick_t_f {f : Go.Fn} {us vs : Array Value} (hc : ev t x = .bool true) (h : ev t y = .func f us vs) : Yv P w0 t m (.pick x y z) (.func f us vs) := Y.pick_t hc h
theorem Y.pick_f_f {f : Go.Fn} {us vs : Array Value} (hc : ev t x = .bool false) (h : ev t z = .func f us vs) : Yv P w0 t m (.pick x y z) (.func f us vs) := Y.pick_f hc h
theorem Y.extract_f {us : Array Value} {i : Nat} {f : Go.Fn} {us vs : Array Value} (hx : ev t x = .tuple us) (h : us.toList[i]? = some (.func f us vs)) : Yv P w0 t m (.extract x i) (.func f us vs) := Y.extract hx (by simpa using h)
theorem Y.move_t {vs : Array Value} (h : ev t x = .tuple vs) : Yv P w0 t m (.move x) (.tuple vs) := Y.move h
theorem Y.assign_t {vs : Array Value} (h : ev t x = .tuple vs) : Yv P w0 t m (.assign x) (.tuple vs) := Y.assign h
theorem Y.pick_t_t {vs : Array Value} (hc : ev t x = .bool true) (h : ev t y = .tuple vs) : Yv P w0 t m (.pick x y z) (.tuple vs) := Y.pick_t hc h
theorem Y.pick_f_t {vs : Array Value} (hc : ev t x = .bool false) (h : ev t z = .tuple vs) : Yv P w0 t m (.pick x y z) (.tuple vs) := Y.pick_f hc h
theorem Y.extract_t {us : Array Value} {i : Nat} {vs : Array Value} (hx : ev t x = .tuple us) (h : us.toList[i]? = some (.tuple vs)) : Yv P w0 t m (.extract x i) (.tuple vs) := Y.extract hx (by simpa using h)
theorem Qt.cast {op : Op} {u v : Value} (h : Qt P w0 t m op u) (e : u = v) : Qt P w0 t m op v := e ▸ h
theorem Yv.cast {op : Op} {u v : Value} (h : Yv P w0 t m op u) (e : u = v) : Yv P w0 t m op v := e ▸ h
end
end Go.Proofs.Ytfmamihoaklogaa.T
