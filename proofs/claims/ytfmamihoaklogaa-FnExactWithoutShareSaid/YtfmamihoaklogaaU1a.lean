/- Families of the other shares: both sides and the laws (used by the claims of this seat). -/
import Derived.Test.YtfmamihoaklogaaOw
import Derived.Test.YtfmamihoaklogaaF10
import Derived.Test.YtfmamihoaklogaaF6
import Derived.Test.YtfmamihoaklogaaV1
import Derived.Test.YtfmamihoaklogaaEx
namespace Go.Proofs.Ytfmamihoaklogaa.T
open Go.RowKit
set_option linter.unusedVariables false
set_option maxRecDepth 100000
set_option maxHeartbeats 4000000

theorem ownW {s w set : Nat} (h1 : set < 32) (h2 : s < 6) (hw : w < 2) : bits .or .i64 (((set % 2 ^ s) ||| (set / 2 ^ s * 2 ^ (s + 1)) : Nat) : Int) ((w * 2 ^ s : Nat) : Int) = ((ownS s w set : Nat) : Int) := by
  have h := own_eqs h1 h2
  have : w = 0 ∨ w = 1 := by omega
  rcases this with rfl | rfl
  · rw [Nat.zero_mul]
    exact h.a7
  · rw [Nat.one_mul]
    exact h.a6
theorem shlW {s w : Nat} (h2 : s < 6) (hw : w < 2) : IntKind.i64.wrap (((w : Nat) : Int) * 2 ^ min ((s : Nat) : Int).toNat IntKind.i64.bits) = ((w * 2 ^ s : Nat) : Int) := by
  have : w = 0 ∨ w = 1 := by omega
  rcases this with rfl | rfl
  · have h0 : IntKind.i64.wrap 0 = 0 := wrap_i64 (by decide) (by decide)
    simpa using h0
  · have := shlI (i := s) (by omega)
    simpa using this
theorem half_le {n : Nat} (h1 : 1 ≤ n) (h6 : n ≤ 6) : 2 ^ (n - 1) ≤ 32 := by
  have := Nat.pow_le_pow_right (n := 2) (by decide) (show n - 1 ≤ 5 by omega)
  omega
theorem without1_fn {b3 b9 b5 b4 n x s w i : Nat} (h1 : 1 ≤ n) (h6 : n ≤ 6) (hx : x < 2 ^ 64) (hs : s < n) (hw2 : w < 2) (hi : i < 2 ^ (n - 1)) : Fn Try.prog 89 #[.int .i64 (i : Int), .pointer (some ⟨b3, 0, none⟩), .pointer (some ⟨b9, 0, none⟩), .pointer (some ⟨b5, 0, none⟩), .pointer (some ⟨b4, 0, none⟩)]
    (fun v => famAt b3 n x v ∧ celAt b9 3 ((2 ^ s - 1 : Nat) : Int) v ∧ celAt b5 3 ((w : Nat) : Int) v ∧ celAt b4 2 (s : Int) v) (.bool (x.testBit (ownS s w i))) := by
  have hhalf := half_le h1 h6
  have hE := own_eqs (set := i) (s := s) (by omega) (by omega)
  have e1 := hE.a1
  have e2 := hE.a2
  have e4 := hE.a4
  have e5 := hE.a5
  have e6 := ownW (set := i) (s := s) (w := w) (by omega) (by omega) hw2
  have e7 := shlW (s := s) (w := w) (by omega) hw2
  have hlt := own_lt h6 hi hs hw2
  have hp := pow_le h6
  generalize ownS s w i = own at *
  generalize i % 2 ^ s = q1 at *
  generalize i / 2 ^ s * 2 ^ (s + 1) = q3 at *
  generalize i / 2 ^ s * 2 ^ s = q2 at *
  generalize 2 ^ s - 1 = low at *
  generalize w * 2 ^ s = wk at *
  refine fn_of_W (rs := [.tmp 6]) Try.func89 Try.ntmps89 (by kernel_rfl) rfl rfl rfl ?_
  have hu2 := Try.underlying2
  have hz2 := T.pos2
  have hs2 := T.sz2
  have hu3 := Try.underlying3
  have hz3 := T.pos3
  have hs3 := T.sz3
  have hu22 := Try.underlying22
  have hz22 := T.pos22
  have hs22 := T.sz22
  have hu26 := Try.underlying26
  have hz26 := T.pos26
  have hs26 := T.sz26
  have hu35 := Try.underlying35
  have hz35 := T.pos35
  have hs35 := T.sz35
  intro w hw
  obtain ⟨w1, w2, w3, w4⟩ := hw
  refine W.seq (W.region ?_)
  refine Wl.yg rfl rfl rfl (Y.assign rfl) ?_
  refine Wl.nil ?_
  refine W.seq ?_
  refine W.draw 15 mixed rfl rfl rfl ?_
  refine Sq.run rfl rfl rfl (Yv.qt (Y.loadG0 rfl (by assumption) rfl w1 (by assumption))) ?_
  refine Sq.run rfl rfl rfl (Yv.qt (Y.move rfl)) ?_
  refine Sq.run rfl rfl rfl (Yv.qt (Y.load0 rfl (by assumption) rfl w2 rfl)) ?_
  refine Sq.run rfl rfl rfl (Yv.qt (Y.and_e rfl rfl e1)) ?_
  refine Sq.run rfl rfl rfl (Yv.qt (Y.move rfl)) ?_
  refine Sq.run rfl rfl rfl (Yv.qt (Y.load0 rfl (by assumption) rfl w2 rfl)) ?_
  refine Sq.run rfl rfl rfl (Yv.qt (Y.andNot_e rfl rfl e2)) ?_
  refine Sq.run rfl rfl rfl (Yv.qt (Y.shl_e rfl rfl (by decide) e4)) ?_
  refine Sq.run rfl rfl rfl (Yv.qt (Y.or_e rfl rfl e5)) ?_
  refine Sq.run rfl rfl rfl (Yv.qt (Y.load0 rfl (by assumption) rfl w3 rfl)) ?_
  refine Sq.run rfl rfl rfl (Yv.qt (Y.load0 rfl (by assumption) rfl w4 rfl)) ?_
  refine Sq.run rfl rfl rfl (Yv.qt (Y.shl_e rfl rfl (Int.natCast_nonneg _) e7)) ?_
  refine Sq.run rfl rfl rfl (Yv.qt (Y.or_e rfl rfl e6)) ?_
  refine Sq.run rfl rfl rfl (Qt.call (has_fn (n : Int) (i := own) hx (by omega)) rfl (fun _ _ => trivial)) ?_
  repeat (first | refine Sq.nil ?_ | (refine Sq.runx rfl rfl rfl ?_; refine ⟨_, (by first | exact Y.move (by conv => lhs; whnf) | exact Y.assign (by conv => lhs; whnf) | exact Y.load_i rfl (by assumption) rfl (by repeat first | exact List.Mem.head _ | apply List.Mem.tail) rfl | exact Y.fld rfl (by assumption) rfl (by assumption) | exact Y.bin_e rfl rfl rfl (by assumption) | exact Y.and_e rfl rfl (by assumption) | exact Y.or_e rfl rfl (by assumption) | exact Y.shr_e rfl rfl (by first | decide | exact Int.natCast_nonneg _ | assumption) (by assumption) | exact Y.shl_e rfl rfl (by first | decide | exact Int.natCast_nonneg _ | assumption) (by assumption) | exact Y.bin rfl rfl rfl | exact Y.conv_e rfl (by assumption) (by assumption) (by assumption) | exact Y.conv rfl (by assumption) (by assumption) | exact Y.not rfl | exact Y.nil rfl | exact Y.load_b rfl (by assumption) rfl (by repeat first | exact List.Mem.head _ | apply List.Mem.tail) rfl | exact Y.load rfl (by assumption) rfl (by repeat first | exact List.Mem.head _ | apply List.Mem.tail) rfl | exact Y.loadG rfl (by assumption) rfl (by repeat first | exact List.Mem.head _ | apply List.Mem.tail) (by first | assumption | (simp only [*]; done)) | exact Y.load0 rfl (by assumption) rfl (by assumption) rfl | exact Y.loadG0 rfl (by assumption) rfl (by assumption) (by first | assumption | (simp only [*]; done)) | exact Y.extractL rfl (by conv => lhs; whnf) | exact Y.len_l rfl rfl (by assumption) | exact Y.len_s rfl rfl (by assumption) | exact Y.max_i rfl rfl | exact Y.min_i rfl rfl | exact Y.pick_t rfl (by conv => lhs; whnf) | exact Y.pick_f rfl (by conv => lhs; whnf) | exact Y.eql_b rfl rfl (by assumption) | exact Y.neq_b rfl rfl (by assumption) | exact Y.eql_s rfl rfl | exact Y.neq_s rfl rfl | exact Y.func rfl rfl), ?_⟩) | refine Sq.off rfl rfl rfl ?_)
  repeat (first | refine W.seq ?_ | refine W.region ?_ | refine W.block ?_ | refine W.skip ?_ | refine W.exit ?_ | refine Wl.nil ?_ | (refine Wl.ygx rfl rfl rfl ?_; refine ⟨_, (by first | exact Y.move (by conv => lhs; whnf) | exact Y.assign (by conv => lhs; whnf) | exact Y.load_i rfl (by assumption) rfl (by repeat first | exact List.Mem.head _ | apply List.Mem.tail) rfl | exact Y.fld rfl (by assumption) rfl (by assumption) | exact Y.bin_e rfl rfl rfl (by assumption) | exact Y.and_e rfl rfl (by assumption) | exact Y.or_e rfl rfl (by assumption) | exact Y.shr_e rfl rfl (by first | decide | exact Int.natCast_nonneg _ | assumption) (by assumption) | exact Y.shl_e rfl rfl (by first | decide | exact Int.natCast_nonneg _ | assumption) (by assumption) | exact Y.bin rfl rfl rfl | exact Y.conv_e rfl (by assumption) (by assumption) (by assumption) | exact Y.conv rfl (by assumption) (by assumption) | exact Y.not rfl | exact Y.nil rfl | exact Y.load_b rfl (by assumption) rfl (by repeat first | exact List.Mem.head _ | apply List.Mem.tail) rfl | exact Y.load rfl (by assumption) rfl (by repeat first | exact List.Mem.head _ | apply List.Mem.tail) rfl | exact Y.loadG rfl (by assumption) rfl (by repeat first | exact List.Mem.head _ | apply List.Mem.tail) (by first | assumption | (simp only [*]; done)) | exact Y.load0 rfl (by assumption) rfl (by assumption) rfl | exact Y.loadG0 rfl (by assumption) rfl (by assumption) (by first | assumption | (simp only [*]; done)) | exact Y.extractL rfl (by conv => lhs; whnf) | exact Y.len_l rfl rfl (by assumption) | exact Y.len_s rfl rfl (by assumption) | exact Y.max_i rfl rfl | exact Y.min_i rfl rfl | exact Y.pick_t rfl (by conv => lhs; whnf) | exact Y.pick_f rfl (by conv => lhs; whnf) | exact Y.eql_b rfl rfl (by assumption) | exact Y.neq_b rfl rfl (by assumption) | exact Y.eql_s rfl rfl | exact Y.neq_s rfl rfl | exact Y.func rfl rfl), ?_⟩) | refine Wl.off rfl rfl rfl ?_)
  (refine W.ret ?_; first | refine Rt.b1 rfl ?_ | refine Rt.i1 rfl ?_)
  rfl
end Go.Proofs.Ytfmamihoaklogaa.T
