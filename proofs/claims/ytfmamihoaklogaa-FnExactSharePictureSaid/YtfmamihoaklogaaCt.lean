/- Bits counted: the library's way and the reference's (used by the claims of this seat). -/
import Derived.Test.YtfmamihoaklogaaTy
import Derived.Test.YtfmamihoaklogaaPc
namespace Go.Proofs.Ytfmamihoaklogaa.T
open Go.RowKit
set_option linter.unusedVariables false
set_option maxRecDepth 100000
set_option maxHeartbeats 4000000


theorem onesCount64_fn {x : Nat} (hx : x < 2 ^ 64) : Fn Try.prog 115 #[.int .u64 (x : Int)] tt (.int .i64 ((pc 64 x : Nat) : Int)) := by
  obtain ⟨y1, h1⟩ : ∃ y, y = (x / 2 &&& 6148914691236517205) + (x &&& 6148914691236517205) := ⟨_, rfl⟩
  obtain ⟨y2, h2⟩ : ∃ y, y = (y1 / 4 &&& 3689348814741910323) + (y1 &&& 3689348814741910323) := ⟨_, rfl⟩
  obtain ⟨y3, h3⟩ : ∃ y, y = ((y2 / 16 + y2) &&& 1085102592571150095) := ⟨_, rfl⟩
  obtain ⟨y4, h4⟩ : ∃ y, y = y3 + y3 / 256 := ⟨_, rfl⟩
  obtain ⟨y5, h5⟩ : ∃ y, y = y4 + y4 / 65536 := ⟨_, rfl⟩
  obtain ⟨y6, h6⟩ : ∃ y, y = y5 + y5 / 4294967296 := ⟨_, rfl⟩
  obtain ⟨k1, k2, k3, k4, k5⟩ := swar hx h1 h2 h3 h4 h5 h6
  have k6 : y5 < 2 ^ 63 := by omega
  have k7 : y4 < 2 ^ 63 := by omega
  have k8 : y3 < 2 ^ 63 := by omega
  have a1 : (x : Int) / 2 ^ min (1 : Int).toNat IntKind.u64.bits = ((x / 2 : Nat) : Int) := shr64 x 1 (by decide)
  have a2 : (y1 : Int) / 2 ^ min (2 : Int).toNat IntKind.u64.bits = ((y1 / 4 : Nat) : Int) := shr64 y1 2 (by decide)
  have a3 : (y2 : Int) / 2 ^ min (4 : Int).toNat IntKind.u64.bits = ((y2 / 16 : Nat) : Int) := shr64 y2 4 (by decide)
  have a4 : (y3 : Int) / 2 ^ min (8 : Int).toNat IntKind.u64.bits = ((y3 / 256 : Nat) : Int) := shr64 y3 8 (by decide)
  have a5 : (y4 : Int) / 2 ^ min (16 : Int).toNat IntKind.u64.bits = ((y4 / 65536 : Nat) : Int) := shr64 y4 16 (by decide)
  have a6 : (y5 : Int) / 2 ^ min (32 : Int).toNat IntKind.u64.bits = ((y5 / 4294967296 : Nat) : Int) := shr64 y5 32 (by decide)
  have n1 : bits .and .u64 ((x / 2 : Nat) : Int) 6148914691236517205 = ((x / 2 &&& 6148914691236517205 : Nat) : Int) := and64 (b := 6148914691236517205) (by omega) (by decide)
  have n2 : bits .and .u64 (x : Int) 6148914691236517205 = ((x &&& 6148914691236517205 : Nat) : Int) := and64 (b := 6148914691236517205) hx (by decide)
  have n3 : bits .and .u64 ((y1 / 4 : Nat) : Int) 3689348814741910323 = ((y1 / 4 &&& 3689348814741910323 : Nat) : Int) := and64 (b := 3689348814741910323) (by omega) (by decide)
  have n4 : bits .and .u64 (y1 : Int) 3689348814741910323 = ((y1 &&& 3689348814741910323 : Nat) : Int) := and64 (b := 3689348814741910323) k3 (by decide)
  have n5 : bits .and .u64 ((y2 / 16 + y2 : Nat) : Int) 1085102592571150095 = (y3 : Int) := by rw [h3]; exact and64 (b := 1085102592571150095) k5 (by decide)
  have w1 : IntKind.u64.wrap (((x / 2 &&& 6148914691236517205 : Nat) : Int) + ((x &&& 6148914691236517205 : Nat) : Int)) = (y1 : Int) := by rw [wrap_u64 (by omega) (by omega)]; omega
  have w2 : IntKind.u64.wrap (((y1 / 4 &&& 3689348814741910323 : Nat) : Int) + ((y1 &&& 3689348814741910323 : Nat) : Int)) = (y2 : Int) := by rw [wrap_u64 (by omega) (by omega)]; omega
  have w3 : IntKind.u64.wrap (((y2 / 16 : Nat) : Int) + (y2 : Int)) = ((y2 / 16 + y2 : Nat) : Int) := by rw [wrap_u64 (by omega) (by omega)]; omega
  have w4 : IntKind.u64.wrap ((y3 : Int) + ((y3 / 256 : Nat) : Int)) = (y4 : Int) := by rw [wrap_u64 (by omega) (by omega)]; omega
  have w5 : IntKind.u64.wrap ((y4 : Int) + ((y4 / 65536 : Nat) : Int)) = (y5 : Int) := by rw [wrap_u64 (by omega) (by omega)]; omega
  have w6 : IntKind.u64.wrap ((y5 : Int) + ((y5 / 4294967296 : Nat) : Int)) = (y6 : Int) := by rw [wrap_u64 (by omega) (by omega)]; omega
  have w7 : IntKind.i64.wrap (y6 : Int) = (y6 : Int) := wrap_i64 (by omega) (by omega)
  have n6 : bits .and .i64 (y6 : Int) 127 = ((pc 64 x : Nat) : Int) := by
    rw [← k1, ← Nat.and_two_pow_sub_one_eq_mod y6 7]
    exact andI (b := 127) k2 (by decide)
  clear h1 h2 h3 h4 h5 h6 k1
  refine fn_of_W (rs := [.tmp 2]) Try.func115 Try.ntmps115 (by kernel_rfl) rfl rfl rfl ?_
  have hu3 := Try.underlying3
  have hz3 := T.pos3
  have hs3 := T.sz3
  have hu26 := Try.underlying26
  have hz26 := T.pos26
  have hs26 := T.sz26
  intro w hw
  repeat (first | refine W.seq ?_ | refine W.region ?_ | refine W.block ?_ | refine W.skip ?_ | refine W.exit ?_ | refine Wl.nil ?_ | refine Wl.yg rfl rfl rfl (by first | exact Y.move (by conv => lhs; whnf) | exact Y.assign (by conv => lhs; whnf) | exact Y.load_i rfl (by assumption) rfl (by repeat first | exact List.Mem.head _ | apply List.Mem.tail) rfl | exact Y.fld rfl (by assumption) rfl (by assumption) | exact Y.bin_e rfl rfl rfl (by assumption) | exact Y.and_e rfl rfl (by assumption) | exact Y.or_e rfl rfl (by assumption) | exact Y.shr_e rfl rfl (by first | decide | exact Int.natCast_nonneg _ | assumption) (by assumption) | exact Y.shl_e rfl rfl (by first | decide | exact Int.natCast_nonneg _ | assumption) (by assumption) | exact Y.bin rfl rfl rfl | exact Y.conv_e rfl (by assumption) (by assumption) (by assumption) | exact Y.conv rfl (by assumption) (by assumption) | exact Y.not rfl | exact Y.nil rfl | exact Y.load_b rfl (by assumption) rfl (by repeat first | exact List.Mem.head _ | apply List.Mem.tail) rfl | exact Y.load rfl (by assumption) rfl (by repeat first | exact List.Mem.head _ | apply List.Mem.tail) rfl | exact Y.loadG rfl (by assumption) rfl (by repeat first | exact List.Mem.head _ | apply List.Mem.tail) (by first | assumption | (simp only [*]; done)) | exact Y.load0 rfl (by assumption) rfl (by assumption) rfl | exact Y.loadG0 rfl (by assumption) rfl (by assumption) (by first | assumption | (simp only [*]; done)) | exact Y.extractL rfl (by conv => lhs; whnf) | exact Y.len_l rfl rfl (by assumption) | exact Y.len_s rfl rfl (by assumption) | exact Y.max_i rfl rfl | exact Y.min_i rfl rfl | exact Y.pick_t rfl (by conv => lhs; whnf) | exact Y.pick_f rfl (by conv => lhs; whnf) | exact Y.eql_b rfl rfl (by assumption) | exact Y.neq_b rfl rfl (by assumption) | exact Y.eql_s rfl rfl | exact Y.neq_s rfl rfl | exact Y.func rfl rfl) ?_ | refine Wl.off rfl rfl rfl ?_)
  (refine W.ret ?_; first | refine Rt.b1 rfl ?_ | refine Rt.i1 rfl ?_)
  rfl
theorem onesCount_fn {x : Nat} (hx : x < 2 ^ 64) : Fn Try.prog 109 #[.int .u64 (x : Int)] tt (.int .i64 ((pc 64 x : Nat) : Int)) := by
  refine fn_of_W (rs := [.tmp 2]) Try.func109 Try.ntmps109 (by kernel_rfl) rfl rfl rfl ?_
  have hu26 := Try.underlying26
  have hz26 := T.pos26
  have hs26 := T.sz26
  have hu56 := Try.underlying56
  have hz56 := T.pos56
  have hs56 := T.sz56
  have hu79 := Try.underlying79
  have hz79 := T.pos79
  have hs79 := T.sz79
  intro w hw
  repeat (first | refine W.seq ?_ | refine W.region ?_ | refine W.block ?_ | refine W.skip ?_ | refine W.exit ?_ | refine Wl.nil ?_ | refine Wl.yg rfl rfl rfl (by first | exact Y.move (by conv => lhs; whnf) | exact Y.assign (by conv => lhs; whnf) | exact Y.load_i rfl (by assumption) rfl (by repeat first | exact List.Mem.head _ | apply List.Mem.tail) rfl | exact Y.fld rfl (by assumption) rfl (by assumption) | exact Y.bin_e rfl rfl rfl (by assumption) | exact Y.and_e rfl rfl (by assumption) | exact Y.or_e rfl rfl (by assumption) | exact Y.shr_e rfl rfl (by first | decide | exact Int.natCast_nonneg _ | assumption) (by assumption) | exact Y.shl_e rfl rfl (by first | decide | exact Int.natCast_nonneg _ | assumption) (by assumption) | exact Y.bin rfl rfl rfl | exact Y.conv_e rfl (by assumption) (by assumption) (by assumption) | exact Y.conv rfl (by assumption) (by assumption) | exact Y.not rfl | exact Y.nil rfl | exact Y.load_b rfl (by assumption) rfl (by repeat first | exact List.Mem.head _ | apply List.Mem.tail) rfl | exact Y.load rfl (by assumption) rfl (by repeat first | exact List.Mem.head _ | apply List.Mem.tail) rfl | exact Y.loadG rfl (by assumption) rfl (by repeat first | exact List.Mem.head _ | apply List.Mem.tail) (by first | assumption | (simp only [*]; done)) | exact Y.load0 rfl (by assumption) rfl (by assumption) rfl | exact Y.loadG0 rfl (by assumption) rfl (by assumption) (by first | assumption | (simp only [*]; done)) | exact Y.extractL rfl (by conv => lhs; whnf) | exact Y.len_l rfl rfl (by assumption) | exact Y.len_s rfl rfl (by assumption) | exact Y.max_i rfl rfl | exact Y.min_i rfl rfl | exact Y.pick_t rfl (by conv => lhs; whnf) | exact Y.pick_f rfl (by conv => lhs; whnf) | exact Y.eql_b rfl rfl (by assumption) | exact Y.neq_b rfl rfl (by assumption) | exact Y.eql_s rfl rfl | exact Y.neq_s rfl rfl | exact Y.func rfl rfl) ?_ | refine Wl.off rfl rfl rfl ?_)
  refine W.cond (b := false) rfl (fun h => by cases h) (fun _ => ?_)
  repeat (first | refine W.seq ?_ | refine W.region ?_ | refine W.block ?_ | refine W.skip ?_ | refine W.exit ?_ | refine Wl.nil ?_ | refine Wl.yg rfl rfl rfl (by first | exact Y.move (by conv => lhs; whnf) | exact Y.assign (by conv => lhs; whnf) | exact Y.load_i rfl (by assumption) rfl (by repeat first | exact List.Mem.head _ | apply List.Mem.tail) rfl | exact Y.fld rfl (by assumption) rfl (by assumption) | exact Y.bin_e rfl rfl rfl (by assumption) | exact Y.and_e rfl rfl (by assumption) | exact Y.or_e rfl rfl (by assumption) | exact Y.shr_e rfl rfl (by first | decide | exact Int.natCast_nonneg _ | assumption) (by assumption) | exact Y.shl_e rfl rfl (by first | decide | exact Int.natCast_nonneg _ | assumption) (by assumption) | exact Y.bin rfl rfl rfl | exact Y.conv_e rfl (by assumption) (by assumption) (by assumption) | exact Y.conv rfl (by assumption) (by assumption) | exact Y.not rfl | exact Y.nil rfl | exact Y.load_b rfl (by assumption) rfl (by repeat first | exact List.Mem.head _ | apply List.Mem.tail) rfl | exact Y.load rfl (by assumption) rfl (by repeat first | exact List.Mem.head _ | apply List.Mem.tail) rfl | exact Y.loadG rfl (by assumption) rfl (by repeat first | exact List.Mem.head _ | apply List.Mem.tail) (by first | assumption | (simp only [*]; done)) | exact Y.load0 rfl (by assumption) rfl (by assumption) rfl | exact Y.loadG0 rfl (by assumption) rfl (by assumption) (by first | assumption | (simp only [*]; done)) | exact Y.extractL rfl (by conv => lhs; whnf) | exact Y.len_l rfl rfl (by assumption) | exact Y.len_s rfl rfl (by assumption) | exact Y.max_i rfl rfl | exact Y.min_i rfl rfl | exact Y.pick_t rfl (by conv => lhs; whnf) | exact Y.pick_f rfl (by conv => lhs; whnf) | exact Y.eql_b rfl rfl (by assumption) | exact Y.neq_b rfl rfl (by assumption) | exact Y.eql_s rfl rfl | exact Y.neq_s rfl rfl | exact Y.func rfl rfl) ?_ | refine Wl.off rfl rfl rfl ?_)
  refine Wl.qt rfl rfl rfl (Qt.call (onesCount64_fn hx) rfl (fun _ _ => trivial)) ?_
  repeat (first | refine W.seq ?_ | refine W.region ?_ | refine W.block ?_ | refine W.skip ?_ | refine W.exit ?_ | refine Wl.nil ?_ | refine Wl.yg rfl rfl rfl (by first | exact Y.move (by conv => lhs; whnf) | exact Y.assign (by conv => lhs; whnf) | exact Y.load_i rfl (by assumption) rfl (by repeat first | exact List.Mem.head _ | apply List.Mem.tail) rfl | exact Y.fld rfl (by assumption) rfl (by assumption) | exact Y.bin_e rfl rfl rfl (by assumption) | exact Y.and_e rfl rfl (by assumption) | exact Y.or_e rfl rfl (by assumption) | exact Y.shr_e rfl rfl (by first | decide | exact Int.natCast_nonneg _ | assumption) (by assumption) | exact Y.shl_e rfl rfl (by first | decide | exact Int.natCast_nonneg _ | assumption) (by assumption) | exact Y.bin rfl rfl rfl | exact Y.conv_e rfl (by assumption) (by assumption) (by assumption) | exact Y.conv rfl (by assumption) (by assumption) | exact Y.not rfl | exact Y.nil rfl | exact Y.load_b rfl (by assumption) rfl (by repeat first | exact List.Mem.head _ | apply List.Mem.tail) rfl | exact Y.load rfl (by assumption) rfl (by repeat first | exact List.Mem.head _ | apply List.Mem.tail) rfl | exact Y.loadG rfl (by assumption) rfl (by repeat first | exact List.Mem.head _ | apply List.Mem.tail) (by first | assumption | (simp only [*]; done)) | exact Y.load0 rfl (by assumption) rfl (by assumption) rfl | exact Y.loadG0 rfl (by assumption) rfl (by assumption) (by first | assumption | (simp only [*]; done)) | exact Y.extractL rfl (by conv => lhs; whnf) | exact Y.len_l rfl rfl (by assumption) | exact Y.len_s rfl rfl (by assumption) | exact Y.max_i rfl rfl | exact Y.min_i rfl rfl | exact Y.pick_t rfl (by conv => lhs; whnf) | exact Y.pick_f rfl (by conv => lhs; whnf) | exact Y.eql_b rfl rfl (by assumption) | exact Y.neq_b rfl rfl (by assumption) | exact Y.eql_s rfl rfl | exact Y.neq_s rfl rfl | exact Y.func rfl rfl) ?_ | refine Wl.off rfl rfl rfl ?_)
  (refine W.ret ?_; first | refine Rt.b1 rfl ?_ | refine Rt.i1 rfl ?_)
  rfl
theorem l01Count_fn {x : Nat} (hx : x < 2 ^ 64) : Fn Try.prog 82 #[.int .u64 (x : Int)] tt (.int .i64 ((pc 64 x : Nat) : Int)) := by
  refine fn_of_W (rs := [.tmp 2]) Try.func82 Try.ntmps82 (by kernel_rfl) rfl rfl rfl ?_
  have hu2 := Try.underlying2
  have hz2 := T.pos2
  have hs2 := T.sz2
  have hu26 := Try.underlying26
  have hz26 := T.pos26
  have hs26 := T.sz26
  intro w hw
  repeat (first | refine W.seq ?_ | refine W.region ?_ | refine W.block ?_ | refine W.skip ?_ | refine W.exit ?_ | refine Wl.nil ?_ | refine Wl.yg rfl rfl rfl (by first | exact Y.move (by conv => lhs; whnf) | exact Y.assign (by conv => lhs; whnf) | exact Y.load_i rfl (by assumption) rfl (by repeat first | exact List.Mem.head _ | apply List.Mem.tail) rfl | exact Y.fld rfl (by assumption) rfl (by assumption) | exact Y.bin_e rfl rfl rfl (by assumption) | exact Y.and_e rfl rfl (by assumption) | exact Y.or_e rfl rfl (by assumption) | exact Y.shr_e rfl rfl (by first | decide | exact Int.natCast_nonneg _ | assumption) (by assumption) | exact Y.shl_e rfl rfl (by first | decide | exact Int.natCast_nonneg _ | assumption) (by assumption) | exact Y.bin rfl rfl rfl | exact Y.conv_e rfl (by assumption) (by assumption) (by assumption) | exact Y.conv rfl (by assumption) (by assumption) | exact Y.not rfl | exact Y.nil rfl | exact Y.load_b rfl (by assumption) rfl (by repeat first | exact List.Mem.head _ | apply List.Mem.tail) rfl | exact Y.load rfl (by assumption) rfl (by repeat first | exact List.Mem.head _ | apply List.Mem.tail) rfl | exact Y.loadG rfl (by assumption) rfl (by repeat first | exact List.Mem.head _ | apply List.Mem.tail) (by first | assumption | (simp only [*]; done)) | exact Y.load0 rfl (by assumption) rfl (by assumption) rfl | exact Y.loadG0 rfl (by assumption) rfl (by assumption) (by first | assumption | (simp only [*]; done)) | exact Y.extractL rfl (by conv => lhs; whnf) | exact Y.len_l rfl rfl (by assumption) | exact Y.len_s rfl rfl (by assumption) | exact Y.max_i rfl rfl | exact Y.min_i rfl rfl | exact Y.pick_t rfl (by conv => lhs; whnf) | exact Y.pick_f rfl (by conv => lhs; whnf) | exact Y.eql_b rfl rfl (by assumption) | exact Y.neq_b rfl rfl (by assumption) | exact Y.eql_s rfl rfl | exact Y.neq_s rfl rfl | exact Y.func rfl rfl) ?_ | refine Wl.off rfl rfl rfl ?_)
  refine W.loopF [0, 3, 4, 5, 6, 7, 8, 9, 10, 11, 12] (fun q : Nat × Nat × Nat => [(0, .int .u64 ((q.2.1 : Nat) : Int)), (3, .int .i64 ((q.2.2 : Nat) : Int))]) (fun _ => []) (fun q => q.1 ≤ 64 ∧ q.2.1 < 2 ^ q.1 ∧ q.2.2 + pc q.1 q.2.1 = pc 64 x) (fun q => q.1) (64, x, 0) ⟨rfl, rfl, trivial⟩ (by repeat (first | exact List.Sublist.refl _ | exact List.nil_sublist _ | refine List.Sublist.cons_cons _ ?_ | refine List.Sublist.cons _ ?_)) ⟨Nat.le_refl _, hx, Nat.zero_add _⟩ ?_
  rintro ⟨k, y, c⟩ s ⟨hk, hy, hc⟩
  have hpk : 2 ^ k ≤ 2 ^ 64 := Nat.pow_le_pow_right (by decide) hk
  simp only at hy hc
  have hcl : c ≤ 64 := by have := pc_le 64 x; omega
  repeat (first | refine W.seq ?_ | refine W.region ?_ | refine W.block ?_ | refine W.skip ?_ | refine W.exit ?_ | refine Wl.nil ?_ | refine Wl.yg rfl rfl rfl (by first | exact Y.move (by conv => lhs; whnf) | exact Y.assign (by conv => lhs; whnf) | exact Y.load_i rfl (by assumption) rfl (by repeat first | exact List.Mem.head _ | apply List.Mem.tail) rfl | exact Y.fld rfl (by assumption) rfl (by assumption) | exact Y.bin_e rfl rfl rfl (by assumption) | exact Y.and_e rfl rfl (by assumption) | exact Y.or_e rfl rfl (by assumption) | exact Y.shr_e rfl rfl (by first | decide | exact Int.natCast_nonneg _ | assumption) (by assumption) | exact Y.shl_e rfl rfl (by first | decide | exact Int.natCast_nonneg _ | assumption) (by assumption) | exact Y.bin rfl rfl rfl | exact Y.conv_e rfl (by assumption) (by assumption) (by assumption) | exact Y.conv rfl (by assumption) (by assumption) | exact Y.not rfl | exact Y.nil rfl | exact Y.load_b rfl (by assumption) rfl (by repeat first | exact List.Mem.head _ | apply List.Mem.tail) rfl | exact Y.load rfl (by assumption) rfl (by repeat first | exact List.Mem.head _ | apply List.Mem.tail) rfl | exact Y.loadG rfl (by assumption) rfl (by repeat first | exact List.Mem.head _ | apply List.Mem.tail) (by first | assumption | (simp only [*]; done)) | exact Y.load0 rfl (by assumption) rfl (by assumption) rfl | exact Y.loadG0 rfl (by assumption) rfl (by assumption) (by first | assumption | (simp only [*]; done)) | exact Y.extractL rfl (by conv => lhs; whnf) | exact Y.len_l rfl rfl (by assumption) | exact Y.len_s rfl rfl (by assumption) | exact Y.max_i rfl rfl | exact Y.min_i rfl rfl | exact Y.pick_t rfl (by conv => lhs; whnf) | exact Y.pick_f rfl (by conv => lhs; whnf) | exact Y.eql_b rfl rfl (by assumption) | exact Y.neq_b rfl rfl (by assumption) | exact Y.eql_s rfl rfl | exact Y.neq_s rfl rfl | exact Y.func rfl rfl) ?_ | refine Wl.off rfl rfl rfl ?_)
  refine W.cond rfl (fun hne => ?_) (fun hne => ?_)
  · have hy0 : y ≠ 0 := by
      rintro rfl
      simp at hne
    obtain ⟨k', rfl⟩ : ∃ k', k = k' + 1 := by
      cases k with
      | zero => simp at hy; omega
      | succ k' => exact ⟨k', rfl⟩
    have hm : y % 2 < 2 := Nat.mod_lt _ (by decide)
    have n1 : bits .and .u64 (y : Int) 1 = ((y % 2 : Nat) : Int) := by
      rw [← Nat.and_one_is_mod]
      exact and64 (b := 1) (by omega) (by decide)
    have w1 : IntKind.i64.wrap ((y % 2 : Nat) : Int) = ((y % 2 : Nat) : Int) := wrap_i64 (by omega) (by omega)
    have w2 : IntKind.i64.wrap ((c : Int) + ((y % 2 : Nat) : Int)) = ((c + y % 2 : Nat) : Int) := by rw [wrap_i64 (by omega) (by omega)]; omega
    have a1 : (y : Int) / 2 ^ min (1 : Int).toNat IntKind.u64.bits = ((y / 2 : Nat) : Int) := shr64 y 1 (by decide)
    repeat (first | refine W.seq ?_ | refine W.region ?_ | refine W.block ?_ | refine W.skip ?_ | refine W.exit ?_ | refine Wl.nil ?_ | refine Wl.yg rfl rfl rfl (by first | exact Y.move (by conv => lhs; whnf) | exact Y.assign (by conv => lhs; whnf) | exact Y.load_i rfl (by assumption) rfl (by repeat first | exact List.Mem.head _ | apply List.Mem.tail) rfl | exact Y.fld rfl (by assumption) rfl (by assumption) | exact Y.bin_e rfl rfl rfl (by assumption) | exact Y.and_e rfl rfl (by assumption) | exact Y.or_e rfl rfl (by assumption) | exact Y.shr_e rfl rfl (by first | decide | exact Int.natCast_nonneg _ | assumption) (by assumption) | exact Y.shl_e rfl rfl (by first | decide | exact Int.natCast_nonneg _ | assumption) (by assumption) | exact Y.bin rfl rfl rfl | exact Y.conv_e rfl (by assumption) (by assumption) (by assumption) | exact Y.conv rfl (by assumption) (by assumption) | exact Y.not rfl | exact Y.nil rfl | exact Y.load_b rfl (by assumption) rfl (by repeat first | exact List.Mem.head _ | apply List.Mem.tail) rfl | exact Y.load rfl (by assumption) rfl (by repeat first | exact List.Mem.head _ | apply List.Mem.tail) rfl | exact Y.loadG rfl (by assumption) rfl (by repeat first | exact List.Mem.head _ | apply List.Mem.tail) (by first | assumption | (simp only [*]; done)) | exact Y.load0 rfl (by assumption) rfl (by assumption) rfl | exact Y.loadG0 rfl (by assumption) rfl (by assumption) (by first | assumption | (simp only [*]; done)) | exact Y.extractL rfl (by conv => lhs; whnf) | exact Y.len_l rfl rfl (by assumption) | exact Y.len_s rfl rfl (by assumption) | exact Y.max_i rfl rfl | exact Y.min_i rfl rfl | exact Y.pick_t rfl (by conv => lhs; whnf) | exact Y.pick_f rfl (by conv => lhs; whnf) | exact Y.eql_b rfl rfl (by assumption) | exact Y.neq_b rfl rfl (by assumption) | exact Y.eql_s rfl rfl | exact Y.neq_s rfl rfl | exact Y.func rfl rfl) ?_ | refine Wl.off rfl rfl rfl ?_)
    refine ⟨(k', y / 2, c + y % 2), (by repeat (first | exact Agree.base _ _ _ | exact Agree.refl _ _ | refine Agree.upd rfl ?_ | refine Agree.inner rfl ?_)), ⟨rfl, rfl, trivial⟩, (by repeat (first | exact List.Sublist.refl _ | exact List.nil_sublist _ | refine List.Sublist.cons_cons _ ?_ | refine List.Sublist.cons _ ?_)), ⟨by omega, ?_, ?_⟩, Nat.lt_succ_self _⟩
    · show y / 2 < 2 ^ k'
      rw [Nat.pow_succ] at hy
      omega
    · show c + y % 2 + pc k' (y / 2) = pc 64 x
      rw [← hc]
      simp only [pc]
      omega
  · have hy0 : y = 0 := by
      have : (y : Int) = 0 := by simpa using hne
      omega
    subst hy0
    repeat (first | refine W.seq ?_ | refine W.region ?_ | refine W.block ?_ | refine W.skip ?_ | refine W.exit ?_ | refine Wl.nil ?_ | refine Wl.yg rfl rfl rfl (by first | exact Y.move (by conv => lhs; whnf) | exact Y.assign (by conv => lhs; whnf) | exact Y.load_i rfl (by assumption) rfl (by repeat first | exact List.Mem.head _ | apply List.Mem.tail) rfl | exact Y.fld rfl (by assumption) rfl (by assumption) | exact Y.bin_e rfl rfl rfl (by assumption) | exact Y.and_e rfl rfl (by assumption) | exact Y.or_e rfl rfl (by assumption) | exact Y.shr_e rfl rfl (by first | decide | exact Int.natCast_nonneg _ | assumption) (by assumption) | exact Y.shl_e rfl rfl (by first | decide | exact Int.natCast_nonneg _ | assumption) (by assumption) | exact Y.bin rfl rfl rfl | exact Y.conv_e rfl (by assumption) (by assumption) (by assumption) | exact Y.conv rfl (by assumption) (by assumption) | exact Y.not rfl | exact Y.nil rfl | exact Y.load_b rfl (by assumption) rfl (by repeat first | exact List.Mem.head _ | apply List.Mem.tail) rfl | exact Y.load rfl (by assumption) rfl (by repeat first | exact List.Mem.head _ | apply List.Mem.tail) rfl | exact Y.loadG rfl (by assumption) rfl (by repeat first | exact List.Mem.head _ | apply List.Mem.tail) (by first | assumption | (simp only [*]; done)) | exact Y.load0 rfl (by assumption) rfl (by assumption) rfl | exact Y.loadG0 rfl (by assumption) rfl (by assumption) (by first | assumption | (simp only [*]; done)) | exact Y.extractL rfl (by conv => lhs; whnf) | exact Y.len_l rfl rfl (by assumption) | exact Y.len_s rfl rfl (by assumption) | exact Y.max_i rfl rfl | exact Y.min_i rfl rfl | exact Y.pick_t rfl (by conv => lhs; whnf) | exact Y.pick_f rfl (by conv => lhs; whnf) | exact Y.eql_b rfl rfl (by assumption) | exact Y.neq_b rfl rfl (by assumption) | exact Y.eql_s rfl rfl | exact Y.neq_s rfl rfl | exact Y.func rfl rfl) ?_ | refine Wl.off rfl rfl rfl ?_)
    (refine W.ret ?_; first | refine Rt.b1 rfl ?_ | refine Rt.i1 rfl ?_)
    rw [← hc, pc_zero]
    rfl
end Go.Proofs.Ytfmamihoaklogaa.T
