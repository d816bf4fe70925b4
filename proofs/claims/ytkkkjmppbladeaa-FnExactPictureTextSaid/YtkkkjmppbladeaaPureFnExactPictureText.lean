/- Proved: for every picture the program's PictureText and the reference's PictureText answer the same text. No condition. -/
import Derived.Test.YtkkkjmppbladeaaPFnExactPictureTextx1
namespace Go.Proofs.Ytkkkjmppbladeaa.Pure
open Go.RowKit Go.Proofs.Ytkkkjmppbladeaa.PFnExactPictureText Go.Proofs.YtkkkjmppbladeaaW.PrintWords Go.Proofs.YtkkkjmppbladeaaW.PrintLast Go.Proofs.YtkkkjmppbladeaaW.PrintMore

theorem bit_of (p i : Nat) (hp : p < 2 ^ 64) (hi : i < 64) :
    Go.bits .and .u64 (shr .u64 (p : Int) (i : Int)) 1 = 0 ∨ Go.bits .and .u64 (shr .u64 (p : Int) (i : Int)) 1 = 1 := by
  have hw : ∀ n : Int, 0 ≤ n → n < 2 ^ 64 → IntKind.u64.wrap n = n := by
    intro n h0 h1
    simp [IntKind.wrap, IntKind.bits, IntKind.signed]
    omega
  have e2 : shr .u64 (p : Int) (i : Int) = ((p / 2 ^ i : Nat) : Int) := by
    unfold shr
    have : min (i : Int).toNat IntKind.u64.bits = i := by simp [IntKind.bits]; omega
    rw [this]
    simp
  have hd : p / 2 ^ i < 2 ^ 64 := Nat.lt_of_le_of_lt (Nat.div_le_self _ _) hp
  have c2 : Go.bits .and .u64 ((p / 2 ^ i : Nat) : Int) 1 = ((p / 2 ^ i &&& 1 : Nat) : Int) := (bits_nat .u64 64 (by decide) hw (p / 2 ^ i) 1 hd (by decide)).1
  rw [e2, c2, Nat.and_one_is_mod]
  omega

theorem loops (p : Nat) (hp : p < 2 ^ 64) (d : Nat) : ∀ (i : Nat) (xs : List Int), i + d = 64 → xs.length ≤ 2 * i →
    ∃ r, spec_PictureText.l0 (d + 1) (p : Int) xs (i : Int) = some r ∧ impl_PictureText.l0 (d + 1) (p : Int) xs (i : Int) = some r := by
  induction d with
  | zero =>
    intro i xs hi _
    refine ⟨strOfNums xs, ?_, ?_⟩
    · simp only [spec_PictureText.l0]; rw [if_neg (by omega)]
    · simp only [impl_PictureText.l0]; rw [if_neg (by omega)]
  | succ d ih =>
    intro i xs hi hx
    have hw : IntKind.u64.wrap (i : Int) = (i : Int) := by
      simp [IntKind.wrap, IntKind.bits, IntKind.signed]
      omega
    have hn : wrap64 ((i : Int) + 1) = ((i + 1 : Nat) : Int) := by unfold wrap64; omega
    have hlt : (i : Int) < 64 := by omega
    have h0 : (0 : Int) ≤ (i : Int) := by omega
    have hm : Int.tmod (i : Int) 8 = ((i % 8 : Nat) : Int) := by rw [Int.tmod_eq_emod_of_nonneg h0]; simp
    have step : ∀ c : Int, ∃ r, (if (Int.tmod (i : Int) 8) = 7 then (if (xs ++ [c]).length < 140737488355328 then spec_PictureText.l0 (d + 1) (p : Int) ((xs ++ [c]) ++ [10]) (wrap64 ((i : Int) + 1)) else none) else spec_PictureText.l0 (d + 1) (p : Int) (xs ++ [c]) (wrap64 ((i : Int) + 1))) = some r
        ∧ (if (Int.tmod (i : Int) 8) = 7 then (if (xs ++ [c]).length < 140737488355328 then impl_PictureText.l0 (d + 1) (p : Int) ((xs ++ [c]) ++ [10]) (wrap64 ((i : Int) + 1)) else none) else impl_PictureText.l0 (d + 1) (p : Int) (xs ++ [c]) (wrap64 ((i : Int) + 1))) = some r := by
      intro c
      rw [hn]
      have hl : (xs ++ [c]).length < 140737488355328 := by simp; omega
      by_cases h7 : Int.tmod (i : Int) 8 = 7
      · simp only [if_pos h7, if_pos hl]
        exact ih (i + 1) _ (by omega) (by simp; omega)
      · simp only [if_neg h7]
        exact ih (i + 1) _ (by omega) (by simp; omega)
    have hl : xs.length < 140737488355328 := by omega
    rcases bit_of p i hp (by omega) with hb | hb
    · obtain ⟨r, h1, h2⟩ := step 46
      refine ⟨r, ?_, ?_⟩
      · rw [spec_PictureText.l0, hw, hb, if_pos hlt, if_pos h0, if_pos (by decide), if_pos (by decide), if_pos hl]
        exact h1
      · rw [impl_PictureText.l0, if_pos hlt]
        unfold impl_Picture_has.f impl_sign.f
        rw [if_pos h0, hb]
        simp only [Option.bind_some]
        rw [if_neg (by decide)]
        simp only [Option.bind_some]
        rw [if_pos hl]
        exact h2
    · obtain ⟨r, h1, h2⟩ := step 35
      refine ⟨r, ?_, ?_⟩
      · rw [spec_PictureText.l0, hw, hb, if_pos hlt, if_pos h0, if_pos (by decide), if_pos (by decide), if_pos hl]
        exact h1
      · rw [impl_PictureText.l0, if_pos hlt]
        unfold impl_Picture_has.f impl_sign.f
        rw [if_pos h0, hb]
        simp only [Option.bind_some]
        rw [if_pos (by decide)]
        simp only [Option.bind_some]
        rw [if_pos hl]
        exact h2

theorem FnExactPictureText : laws_FnExactPictureText.Pure := by
  intro a0 h0
  have hb : 0 ≤ a0 ∧ a0 < 2 ^ 64 := by
    simp [Lit.wf, IntKind.min, IntKind.max, IntKind.signed, IntKind.bits] at h0
    omega
  obtain ⟨p, rfl⟩ := Int.eq_ofNat_of_zero_le hb.1
  obtain ⟨r, h1, h2⟩ := loops p (by omega) 64 0 [] (by omega) (by simp)
  refine ⟨65, ?_⟩
  unfold laws_FnExactPictureText.f spec_PictureText.f impl_PictureText.f
  have h1' : spec_PictureText.l0 65 (p : Int) ([] : List Int) 0 = some r := h1
  have h2' : impl_PictureText.l0 65 (p : Int) ([] : List Int) 0 = some r := h2
  rw [h1', h2']
  simp

end Go.Proofs.Ytkkkjmppbladeaa.Pure
