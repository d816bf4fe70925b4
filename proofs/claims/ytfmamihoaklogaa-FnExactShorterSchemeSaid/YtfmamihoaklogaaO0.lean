/- How many parts a scheme by others has (used by the claims of this seat). -/
import Derived.Test.YtfmamihoaklogaaF11
import Derived.Test.YtfmamihoaklogaaTh
import Derived.Test.YtfmamihoaklogaaEx
namespace Go.Proofs.Ytfmamihoaklogaa.T
open Go.RowKit
set_option linter.unusedVariables false
set_option maxRecDepth 100000
set_option maxHeartbeats 4000000

theorem or_gt {m j : Nat} (h : m.testBit j = false) : m < m ||| 2 ^ j := by
  have h1 : m ≤ m ||| 2 ^ j := Nat.left_le_or
  refine Nat.lt_of_le_of_ne h1 fun e => ?_
  have : (m ||| 2 ^ j).testBit j = true := by simp
  rw [← e, h] at this
  cases this
theorem max_blind (n x : Nat) (h0 : x.testBit 0 = false) : ∀ k, k ≤ 2 ^ n → (∃ m, m < 2 ^ n ∧ x.testBit m = false ∧ 2 ^ n - k ≤ m ∧ ∀ m', m < m' → m' < 2 ^ n → x.testBit m' = true) ∨ ∀ m', 2 ^ n - k ≤ m' → m' < 2 ^ n → x.testBit m' = true
  | 0, _ => .inr fun m' h1 h2 => by omega
  | k + 1, hk => by
    rcases max_blind n x h0 k (by omega) with ⟨m, h1, h2, h3, h4⟩ | h
    · exact .inl ⟨m, h1, h2, by omega, h4⟩
    · cases hx : x.testBit (2 ^ n - (k + 1)) with
      | false => exact .inl ⟨2 ^ n - (k + 1), by omega, hx, Nat.le_refl _, fun m' h1 h2 => h m' (by omega) h2⟩
      | true =>
        refine .inr fun m' h1 h2 => ?_
        by_cases e : m' = 2 ^ n - (k + 1)
        · rw [e]
          exact hx
        · exact h m' (by omega) h2
theorem others_pos {n x : Nat} (hf : famOk n x = true) : 0 < (others n x).length := by
  have h0 : x.testBit 0 = false := by
    unfold famOk at hf
    simp only [Bool.and_eq_true] at hf
    simpa using hf.2.2.1
  have hpos := two_le_pow n
  rcases max_blind n x h0 (2 ^ n) (Nat.le_refl _) with ⟨m, h1, h2, h3, h4⟩ | h
  · refine List.length_pos_of_mem (a := m) (List.mem_filter.2 ⟨List.mem_range.2 h1, ?_⟩)
    simp only [grA, h2, Bool.not_false, Bool.true_and, List.all_eq_true, List.mem_range]
    intro j hj
    cases hb : m.testBit j with
    | true => rfl
    | false => simpa using h4 _ (or_gt hb) (or_lt h1 hj)
  · have := h 0 (by omega) (by omega)
    rw [h0] at this
    cases this
def pbo (L : List Nat) : Int := IntKind.i64.wrap (1 * 2 ^ min (((L.length - 1 : Nat) : Nat) : Int).toNat IntKind.i64.bits)
theorem others_len {n x : Nat} (h6 : n ≤ 6) : (others n x).length ≤ 64 := Nat.le_trans (filter_len _ _) (pow_le h6)
theorem partsByOthers_fn {n x : Nat} (h6 : n ≤ 6) (hx : x < 2 ^ 64) (hf : famOk n x = true) : Fn Try.prog 67 #[.agg #[.int .i8 (n : Int), .int .u64 (x : Int)]] tt (.int .i64 (pbo (others n x))) := by
  have hp := others_pos hf
  have hl := others_len (x := x) h6
  have e1 : IntKind.i64.wrap (((others n x).length : Int) - 1) = (((others n x).length - 1 : Nat) : Int) := by rw [wrap_i64 (by omega) (by omega)]; omega
  have e2 : IntKind.i64.wrap (1 * 2 ^ min ((((others n x).length - 1 : Nat) : Nat) : Int).toNat IntKind.i64.bits) = pbo (others n x) := rfl
  refine fn_of_W (rs := [.tmp 2]) Try.func67 Try.ntmps67 (by kernel_rfl) rfl rfl rfl ?_
  have hu5 := Try.underlying5
  have hz5 := T.pos5
  have hs5 := T.sz5
  have hu22 := Try.underlying22
  have hz22 := T.pos22
  have hs22 := T.sz22
  have hu26 := Try.underlying26
  have hz26 := T.pos26
  have hs26 := T.sz26
  have hu35 := Try.underlying35
  have hz35 := T.pos35
  have hs35 := T.sz35
  have hu41 := Try.underlying41
  have hz41 := T.pos41
  have hs41 := T.sz41
  intro w hw
  refine W.seq (W.region ?_)
  (first | refine Wl.boxA rfl rfl rfl rfl rfl ?_ | refine Wl.box rfl rfl rfl rfl rfl ?_)
  intro b
  repeat (first | refine W.seq ?_ | refine W.region ?_ | refine W.block ?_ | refine W.skip ?_ | refine W.exit ?_ | refine Wl.nil ?_ | (refine Wl.ygx rfl rfl rfl ?_; refine ⟨_, (by first | exact Y.move (by conv => lhs; whnf) | exact Y.assign (by conv => lhs; whnf) | exact Y.load_i rfl (by assumption) rfl (by repeat first | exact List.Mem.head _ | apply List.Mem.tail) rfl | exact Y.fld rfl (by assumption) rfl (by assumption) | exact Y.bin_e rfl rfl rfl (by assumption) | exact Y.and_e rfl rfl (by assumption) | exact Y.or_e rfl rfl (by assumption) | exact Y.shr_e rfl rfl (by first | decide | exact Int.natCast_nonneg _ | assumption) (by assumption) | exact Y.shl_e rfl rfl (by first | decide | exact Int.natCast_nonneg _ | assumption) (by assumption) | exact Y.bin rfl rfl rfl | exact Y.conv_e rfl (by assumption) (by assumption) (by assumption) | exact Y.conv rfl (by assumption) (by assumption) | exact Y.not rfl | exact Y.nil rfl | exact Y.load_b rfl (by assumption) rfl (by repeat first | exact List.Mem.head _ | apply List.Mem.tail) rfl | exact Y.load rfl (by assumption) rfl (by repeat first | exact List.Mem.head _ | apply List.Mem.tail) rfl | exact Y.loadG rfl (by assumption) rfl (by repeat first | exact List.Mem.head _ | apply List.Mem.tail) (by first | assumption | (simp only [*]; done)) | exact Y.load0 rfl (by assumption) rfl (by assumption) rfl | exact Y.loadG0 rfl (by assumption) rfl (by assumption) (by first | assumption | (simp only [*]; done)) | exact Y.extractL rfl (by conv => lhs; whnf) | exact Y.len_l rfl rfl (by assumption) | exact Y.len_s rfl rfl (by assumption) | exact Y.max_i rfl rfl | exact Y.min_i rfl rfl | exact Y.pick_t rfl (by conv => lhs; whnf) | exact Y.pick_f rfl (by conv => lhs; whnf) | exact Y.eql_b rfl rfl (by assumption) | exact Y.neq_b rfl rfl (by assumption) | exact Y.eql_s rfl rfl | exact Y.neq_s rfl rfl | exact Y.func rfl rfl), ?_⟩) | refine Wl.off rfl rfl rfl ?_)
  refine Wl.callR rfl rfl rfl rfl (greatestOthers_fn h6 hx) rfl (fun _ _ => trivial) ?_
  intro v m' hm'
  refine Wl.sub (m1 := bytesRow v (others n x) :: _) (hm'.append (List.Sublist.refl _)) ?_
  refine Wl.form (v := v) (n := (others n x).length) (xs := u8s (others n x)) (e := 5) (sz := 1) (by repeat first | exact List.Mem.head _ | apply List.Mem.tail) (fun _ h => by omega) fun g cap hv => ?_
  subst hv
  repeat (first | refine W.seq ?_ | refine W.region ?_ | refine W.block ?_ | refine W.skip ?_ | refine W.exit ?_ | refine Wl.nil ?_ | (refine Wl.ygx rfl rfl rfl ?_; refine ⟨_, (by first | exact Y.move (by conv => lhs; whnf) | exact Y.assign (by conv => lhs; whnf) | exact Y.load_i rfl (by assumption) rfl (by repeat first | exact List.Mem.head _ | apply List.Mem.tail) rfl | exact Y.fld rfl (by assumption) rfl (by assumption) | exact Y.bin_e rfl rfl rfl (by assumption) | exact Y.and_e rfl rfl (by assumption) | exact Y.or_e rfl rfl (by assumption) | exact Y.shr_e rfl rfl (by first | decide | exact Int.natCast_nonneg _ | assumption) (by assumption) | exact Y.shl_e rfl rfl (by first | decide | exact Int.natCast_nonneg _ | assumption) (by assumption) | exact Y.bin rfl rfl rfl | exact Y.conv_e rfl (by assumption) (by assumption) (by assumption) | exact Y.conv rfl (by assumption) (by assumption) | exact Y.not rfl | exact Y.nil rfl | exact Y.load_b rfl (by assumption) rfl (by repeat first | exact List.Mem.head _ | apply List.Mem.tail) rfl | exact Y.load rfl (by assumption) rfl (by repeat first | exact List.Mem.head _ | apply List.Mem.tail) rfl | exact Y.loadG rfl (by assumption) rfl (by repeat first | exact List.Mem.head _ | apply List.Mem.tail) (by first | assumption | (simp only [*]; done)) | exact Y.load0 rfl (by assumption) rfl (by assumption) rfl | exact Y.loadG0 rfl (by assumption) rfl (by assumption) (by first | assumption | (simp only [*]; done)) | exact Y.extractL rfl (by conv => lhs; whnf) | exact Y.len_l rfl rfl (by assumption) | exact Y.len_s rfl rfl (by assumption) | exact Y.max_i rfl rfl | exact Y.min_i rfl rfl | exact Y.pick_t rfl (by conv => lhs; whnf) | exact Y.pick_f rfl (by conv => lhs; whnf) | exact Y.eql_b rfl rfl (by assumption) | exact Y.neq_b rfl rfl (by assumption) | exact Y.eql_s rfl rfl | exact Y.neq_s rfl rfl | exact Y.func rfl rfl), ?_⟩) | refine Wl.off rfl rfl rfl ?_)
  (refine W.ret ?_; first | refine Rt.b1 rfl ?_ | refine Rt.i1 rfl ?_)
  rfl
theorem l04ByOthers_fn {b n x : Nat} (h6 : n ≤ 6) (hx : x < 2 ^ 64) (hf : famOk n x = true) : Fn Try.prog 64 #[.pointer (some ⟨b, 0, none⟩)] (famAt b n x) (.int .i64 (pbo (others n x))) := by
  have hp := others_pos hf
  have hl := others_len (x := x) h6
  have e1 : IntKind.i64.wrap (((others n x).length : Int) - 1) = (((others n x).length - 1 : Nat) : Int) := by rw [wrap_i64 (by omega) (by omega)]; omega
  have e3 : IntKind.u64.wrap (((others n x).length - 1 : Nat) : Int) = (((others n x).length - 1 : Nat) : Int) := wrap_u64 (by omega) (by omega)
  have e2 : IntKind.i64.wrap (1 * 2 ^ min ((((others n x).length - 1 : Nat) : Nat) : Int).toNat IntKind.i64.bits) = pbo (others n x) := rfl
  refine fn_of_W (rs := [.tmp 2]) Try.func64 Try.ntmps64 (by kernel_rfl) rfl rfl rfl ?_
  have hu3 := Try.underlying3
  have hz3 := T.pos3
  have hs3 := T.sz3
  have hu5 := Try.underlying5
  have hz5 := T.pos5
  have hs5 := T.sz5
  have hu41 := Try.underlying41
  have hz41 := T.pos41
  have hs41 := T.sz41
  have hu76 := Try.underlying76
  have hz76 := T.pos76
  have hs76 := T.sz76
  have hu79 := Try.underlying79
  have hz79 := T.pos79
  have hs79 := T.sz79
  intro w hw
  have st := famAt_stays b n x
  repeat (first | refine W.seq ?_ | refine W.region ?_ | refine W.block ?_ | refine W.skip ?_ | refine W.exit ?_ | refine Wl.nil ?_ | (refine Wl.ygx rfl rfl rfl ?_; refine ⟨_, (by first | exact Y.move (by conv => lhs; whnf) | exact Y.assign (by conv => lhs; whnf) | exact Y.load_i rfl (by assumption) rfl (by repeat first | exact List.Mem.head _ | apply List.Mem.tail) rfl | exact Y.fld rfl (by assumption) rfl (by assumption) | exact Y.bin_e rfl rfl rfl (by assumption) | exact Y.and_e rfl rfl (by assumption) | exact Y.or_e rfl rfl (by assumption) | exact Y.shr_e rfl rfl (by first | decide | exact Int.natCast_nonneg _ | assumption) (by assumption) | exact Y.shl_e rfl rfl (by first | decide | exact Int.natCast_nonneg _ | assumption) (by assumption) | exact Y.bin rfl rfl rfl | exact Y.conv_e rfl (by assumption) (by assumption) (by assumption) | exact Y.conv rfl (by assumption) (by assumption) | exact Y.not rfl | exact Y.nil rfl | exact Y.load_b rfl (by assumption) rfl (by repeat first | exact List.Mem.head _ | apply List.Mem.tail) rfl | exact Y.load rfl (by assumption) rfl (by repeat first | exact List.Mem.head _ | apply List.Mem.tail) rfl | exact Y.loadG rfl (by assumption) rfl (by repeat first | exact List.Mem.head _ | apply List.Mem.tail) (by first | assumption | (simp only [*]; done)) | exact Y.load0 rfl (by assumption) rfl (by assumption) rfl | exact Y.loadG0 rfl (by assumption) rfl (by assumption) (by first | assumption | (simp only [*]; done)) | exact Y.extractL rfl (by conv => lhs; whnf) | exact Y.len_l rfl rfl (by assumption) | exact Y.len_s rfl rfl (by assumption) | exact Y.max_i rfl rfl | exact Y.min_i rfl rfl | exact Y.pick_t rfl (by conv => lhs; whnf) | exact Y.pick_f rfl (by conv => lhs; whnf) | exact Y.eql_b rfl rfl (by assumption) | exact Y.neq_b rfl rfl (by assumption) | exact Y.eql_s rfl rfl | exact Y.neq_s rfl rfl | exact Y.func rfl rfl), ?_⟩) | refine Wl.off rfl rfl rfl ?_)
  refine Wl.callR rfl rfl rfl rfl (l04Others_fn h6 hx) rfl (st.at_ hw) ?_
  intro v m' hm'
  refine Wl.sub (m1 := bytesRow v (others n x) :: _) (hm'.append (List.Sublist.refl _)) ?_
  refine Wl.form (v := v) (n := (others n x).length) (xs := u8s (others n x)) (e := 5) (sz := 1) (by repeat first | exact List.Mem.head _ | apply List.Mem.tail) (fun _ h => by omega) fun g cap hv => ?_
  subst hv
  repeat (first | refine W.seq ?_ | refine W.region ?_ | refine W.block ?_ | refine W.skip ?_ | refine W.exit ?_ | refine Wl.nil ?_ | (refine Wl.ygx rfl rfl rfl ?_; refine ⟨_, (by first | exact Y.move (by conv => lhs; whnf) | exact Y.assign (by conv => lhs; whnf) | exact Y.load_i rfl (by assumption) rfl (by repeat first | exact List.Mem.head _ | apply List.Mem.tail) rfl | exact Y.fld rfl (by assumption) rfl (by assumption) | exact Y.bin_e rfl rfl rfl (by assumption) | exact Y.and_e rfl rfl (by assumption) | exact Y.or_e rfl rfl (by assumption) | exact Y.shr_e rfl rfl (by first | decide | exact Int.natCast_nonneg _ | assumption) (by assumption) | exact Y.shl_e rfl rfl (by first | decide | exact Int.natCast_nonneg _ | assumption) (by assumption) | exact Y.bin rfl rfl rfl | exact Y.conv_e rfl (by assumption) (by assumption) (by assumption) | exact Y.conv rfl (by assumption) (by assumption) | exact Y.not rfl | exact Y.nil rfl | exact Y.load_b rfl (by assumption) rfl (by repeat first | exact List.Mem.head _ | apply List.Mem.tail) rfl | exact Y.load rfl (by assumption) rfl (by repeat first | exact List.Mem.head _ | apply List.Mem.tail) rfl | exact Y.loadG rfl (by assumption) rfl (by repeat first | exact List.Mem.head _ | apply List.Mem.tail) (by first | assumption | (simp only [*]; done)) | exact Y.load0 rfl (by assumption) rfl (by assumption) rfl | exact Y.loadG0 rfl (by assumption) rfl (by assumption) (by first | assumption | (simp only [*]; done)) | exact Y.extractL rfl (by conv => lhs; whnf) | exact Y.len_l rfl rfl (by assumption) | exact Y.len_s rfl rfl (by assumption) | exact Y.max_i rfl rfl | exact Y.min_i rfl rfl | exact Y.pick_t rfl (by conv => lhs; whnf) | exact Y.pick_f rfl (by conv => lhs; whnf) | exact Y.eql_b rfl rfl (by assumption) | exact Y.neq_b rfl rfl (by assumption) | exact Y.eql_s rfl rfl | exact Y.neq_s rfl rfl | exact Y.func rfl rfl), ?_⟩) | refine Wl.off rfl rfl rfl ?_)
  (refine W.ret ?_; first | refine Rt.b1 rfl ?_ | refine Rt.i1 rfl ?_)
  rfl
/-- The full set is no other set, so there are fewer others than sets. -/
theorem filter_lt {p : Nat → Bool} : ∀ {k : Nat}, p k = false → ((List.range (k + 1)).filter p).length ≤ k
  | k, h => by
    rw [List.range_succ, List.filter_append, List.filter_cons, List.filter_nil, h]
    simp only [Bool.false_eq_true, if_false, List.append_nil]
    exact filter_len _ _
theorem others_le {n x : Nat} (h6 : n ≤ 6) (hf : famOk n x = true) : (others n x).length ≤ 63 := by
  have hfull : x.testBit (2 ^ n - 1) = true := by
    unfold famOk at hf
    simp only [Bool.and_eq_true] at hf
    exact hf.2.1
  have hp := pow_le h6
  have h1 := two_le_pow n
  unfold others
  rw [show 2 ^ n = (2 ^ n - 1) + 1 by omega]
  refine Nat.le_trans (filter_lt ?_) (by omega)
  simp [grA, hfull]
theorem pow_big {m : Nat} (h : m ≤ 62) (h4 : 4 ≤ m) : (8 : Int) < IntKind.i64.wrap (1 * 2 ^ min ((m : Nat) : Int).toNat IntKind.i64.bits) := by
  by_cases h2 : m < 62
  · rw [shlI h2]
    have := Nat.pow_le_pow_right (n := 2) (by decide) h4
    omega
  · rw [show m = 62 by omega]
    decide
theorem pbo_le {L : List Nat} (h : L.length ≤ 63) (hp : pbo L ≤ 8) : L.length ≤ 4 := by
  unfold pbo at hp
  refine Nat.le_of_not_lt fun hc => ?_
  have := pow_big (m := L.length - 1) (by omega) (by omega)
  omega
end Go.Proofs.Ytfmamihoaklogaa.T
