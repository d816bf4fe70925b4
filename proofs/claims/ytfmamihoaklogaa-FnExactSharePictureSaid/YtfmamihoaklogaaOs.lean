/- Schemes opened from their readings; their rows stored whole (used by the claims of this seat). -/
import Derived.Test.YtfmamihoaklogaaSc
import Derived.Test.YtfmamihoaklogaaLa
namespace Go.Proofs.Ytfmamihoaklogaa.T
open Go.ChangeShapes Go.WideShapes Go.ChangeAt Go.RowKit Go.Joins Go.Deep
set_option linter.unusedVariables false
theorem blit_get {cs vs : Array Value} {off j : Nat} (h : off + vs.size ≤ cs.size) : (blit cs off vs)[j]? = if j < off then cs[j]? else if j < off + vs.size then vs[j - off]? else cs[j]? := by
  have hl : (cs.toList.take off).length = off := by rw [List.length_take, Array.length_toList]; omega
  have e : (blit cs off vs)[j]? = (cs.toList.take off ++ vs.toList ++ cs.toList.drop (off + vs.size))[j]? := by simp [blit]
  rw [e]
  by_cases h1 : j < off
  · rw [if_pos h1, List.append_assoc, List.getElem?_append_left (by omega), List.getElem?_take, if_pos h1, Array.getElem?_toList]
  · rw [if_neg h1]
    by_cases h2 : j < off + vs.size
    · rw [if_pos h2, List.append_assoc, List.getElem?_append_right (by omega), hl, List.getElem?_append_left (by rw [Array.length_toList]; omega), Array.getElem?_toList]
    · rw [if_neg h2, List.getElem?_append_right (by rw [List.length_append, hl, Array.length_toList]; omega), List.length_append, hl, Array.length_toList, List.getElem?_drop, show off + vs.size + (j - (off + vs.size)) = j by omega, Array.getElem?_toList]
theorem blit_size {cs vs : Array Value} {off : Nat} (h : off + vs.size ≤ cs.size) : (blit cs off vs).size = cs.size := by
  simp [blit]
  omega
section
variable {n p n' p' : Int} {f g f' g' : Nat → Nat}
theorem sch_setn : (sch n p f g).setIfInBounds (0 + 0) (.int .i8 n') = sch n' p f g := by
  refine sch_ext (by simp [sch_size]) ?_ ?_ ?_ ?_
  · rw [sch_set, if_pos ⟨rfl, by omega⟩]
  · rw [sch_set, if_neg (by omega), sch_p]
  · intro j hj
    rw [sch_set, if_neg (by omega), sch_wAt hj]
  · intro j hj
    rw [sch_set, if_neg (by omega), sch_bAt hj]
theorem sch_blitw : blit (sch n p f g) (0 + 2) (fa .u8 6 f') = sch n p f' g := by
  have hs : (0 + 2) + (fa .u8 6 f').size ≤ (sch n p f g).size := by rw [fa_size, sch_size]; omega
  refine sch_ext (by rw [blit_size hs, sch_size]) ?_ ?_ ?_ ?_
  · rw [blit_get hs, if_pos (by omega), sch_n]
  · rw [blit_get hs, if_pos (by omega), sch_p]
  · intro j hj
    rw [blit_get hs, if_neg (by omega), fa_size, if_pos (by omega), show 2 + j - (0 + 2) = j by omega, fa_at hj]
  · intro j hj
    rw [blit_get hs, if_neg (by omega), fa_size, if_neg (by omega), sch_bAt hj]
theorem sch_blitb : blit (sch n p f g) (0 + 8) (fa .u8 6 g') = sch n p f g' := by
  have hs : (0 + 8) + (fa .u8 6 g').size ≤ (sch n p f g).size := by rw [fa_size, sch_size]; omega
  refine sch_ext (by rw [blit_size hs, sch_size]) ?_ ?_ ?_ ?_
  · rw [blit_get hs, if_pos (by omega), sch_n]
  · rw [blit_get hs, if_pos (by omega), sch_p]
  · intro j hj
    rw [blit_get hs, if_pos (by omega), sch_wAt hj]
  · intro j hj
    rw [blit_get hs, if_neg (by omega), fa_size, if_pos (by omega), show 8 + j - (0 + 8) = j by omega, fa_at hj]
end
section
variable {H : Type} {enc : TypeId × Value → H} {P : Program} {w : World} {base : Nat} {spare : Nat → Bool} {held : Bool}
theorem opn_u32 {r : Reach} {b0 : Nat} {t : TypeId} {v : Value} {d : DataW H} {ps : List MemPlace} (ht : P.underlying t = some (.int .u32)) (hval : Value.okWide P w r b0 t v) (hd : DataW.Trod enc P w base spare held t v d ps) :
    ∃ n : Nat, v = .int .u32 (n : Int) ∧ n < 4294967296 := by
  obtain ⟨n, h, _, _, hw⟩ := open_int ht hval hd
  have hb : 0 ≤ n ∧ n < 4294967296 := by
    simp [Lit.wf, IntKind.min, IntKind.max, IntKind.signed, IntKind.bits] at hw
    omega
  obtain ⟨m, rfl⟩ := Int.eq_ofNat_of_zero_le hb.1
  exact ⟨m, h, by omega⟩
theorem opn_sch {r : Reach} {b0 : Nat} {t e : TypeId} {f0 f1 f2 f3 : Field} {v : Value} {d : DataW H} {ps : List MemPlace} (hs : P.underlying t = some (.struct #[f0, f1, f2, f3])) (hC : P.cellsOf t = 14)
    (h0 : P.underlying f0.type = some (.int .i8)) (h1 : P.underlying f1.type = some (.int .i8)) (h2 : P.underlying f2.type = some (.array 6 e)) (h3 : P.underlying f3.type = some (.array 6 e)) (he : P.underlying e = some (.int .u8))
    (hc0 : P.cellsOf f0.type = 1) (hc1 : P.cellsOf f1.type = 1) (hc2 : P.cellsOf f2.type = 6) (hc3 : P.cellsOf f3.type = 6) (hce : P.cellsOf e = 1) (ho0 : f0.offset = 0) (ho1 : f1.offset = 1) (ho2 : f2.offset = 2) (ho3 : f3.offset = 8)
    (hv : Value.okWide P w r b0 t v) (h : DataW.Trod enc P w base spare held t v d ps) : ∃ (n p : Int) (f g : Nat → Nat), v = .agg (sch n p f g) ∧ (-128 ≤ n ∧ n < 128) ∧ (-128 ≤ p ∧ p < 128) ∧ (∀ i, i < 6 → f i < 256) ∧ ∀ i, i < 6 → g i < 256 := by
  obtain ⟨cs, rfl, hsz⟩ := okWide_struct hs hv
  obtain ⟨fuel, hf⟩ := h
  obtain ⟨y0, y1, y2, y3, n, hx, _, k0, k1, k2, k3⟩ := trod_struct4 hs hf
  rw [hc0, ho0] at k0
  rw [hc1, ho1] at k1
  rw [hc2, ho2] at k2
  rw [hc3, ho3] at k3
  obtain ⟨a, e0, _, w0⟩ := DataW.trod_int h0 k0
  obtain ⟨b, e1, _, w1⟩ := DataW.trod_int h1 k1
  obtain ⟨f, e2, hb2⟩ := fa8_trod h2 he hce hc2 k2
  obtain ⟨g, e3, hb3⟩ := fa8_trod h3 he hce hc3 k3
  refine ⟨a, b, f, g, ?_, wf_i8 w0, wf_i8 w1, hb2, hb3⟩
  congr 1
  have at_ : ∀ (o m : Nat) (l : List Value) (j : Nat), ((Value.agg cs).cells.toList.drop o).take m = l → j < m → o + j < cs.size → cs[o + j]? = l[j]? := fun o m l j hl hj ho => by
    rw [← hl, List.getElem?_take, if_pos hj, List.getElem?_drop]
    simp [Value.cells]
  refine sch_ext (by rw [hsz, hC]) ?_ ?_ (fun i hi => ?_) fun i hi => ?_
  · exact at_ 0 1 _ 0 e0 (by omega) (by omega)
  · exact at_ 1 1 _ 0 e1 (by omega) (by omega)
  · rw [at_ 2 6 _ i e2 hi (by omega), Array.getElem?_toList, fa_at hi]
  · rw [at_ 8 6 _ i e3 hi (by omega), Array.getElem?_toList, fa_at hi]
end
end Go.Proofs.Ytfmamihoaklogaa.T
