/- What the types of this seat are: sizes and zero values, by the kernel. -/
import Derived.Test.YtkkkjmppbladeaaTe
import Derived.Test.YtkkkjmppbladeaaProg
import Derived.KernelRfl
namespace Go.Proofs.Ytkkkjmppbladeaa.T
theorem sz2 : (Try.prog.info? 2).map (·.size) = some 1 := by kernel_rfl
theorem pos2 : szPos Try.prog 2 = true := by kernel_rfl
theorem zero2 : ∀ w : World, (zeroValue 2).run Try.prog w = .ok (.int .i64 0) w := fun w => by kernel_rfl
theorem sz3 : (Try.prog.info? 3).map (·.size) = some 1 := by kernel_rfl
theorem pos3 : szPos Try.prog 3 = true := by kernel_rfl
theorem zero3 : ∀ w : World, (zeroValue 3).run Try.prog w = .ok (.int .i64 0) w := fun w => by kernel_rfl
theorem sz4 : (Try.prog.info? 4).map (·.size) = some 1 := by kernel_rfl
theorem pos4 : szPos Try.prog 4 = true := by kernel_rfl
theorem zero4 : ∀ w : World, (zeroValue 4).run Try.prog w = .ok (.bool false) w := fun w => by kernel_rfl
theorem sz5 : (Try.prog.info? 5).map (·.size) = some 1 := by kernel_rfl
theorem pos5 : szPos Try.prog 5 = true := by kernel_rfl
theorem zero5 : ∀ w : World, (zeroValue 5).run Try.prog w = .ok (.int .u8 0) w := fun w => by kernel_rfl
theorem sz9 : (Try.prog.info? 9).map (·.size) = some 1 := by kernel_rfl
theorem pos9 : szPos Try.prog 9 = true := by kernel_rfl
theorem zero9 : ∀ w : World, (zeroValue 9).run Try.prog w = .ok (.string ⟨#[]⟩) w := fun w => by kernel_rfl
theorem sz27 : (Try.prog.info? 27).map (·.size) = some 1 := by kernel_rfl
theorem pos27 : szPos Try.prog 27 = true := by kernel_rfl
theorem zero27 : ∀ w : World, (zeroValue 27).run Try.prog w = .ok (.int .u64 0) w := fun w => by kernel_rfl
theorem sz36 : (Try.prog.info? 36).map (·.size) = some 64 := by kernel_rfl
theorem pos36 : szPos Try.prog 36 = true := by kernel_rfl
theorem zero36 : ∀ w : World, (zeroValue 36).run Try.prog w = .ok (.agg (Array.replicate 64 (.int .u8 0))) w := fun w => by kernel_rfl
theorem sz38 : (Try.prog.info? 38).map (·.size) = some 64 := by kernel_rfl
theorem pos38 : szPos Try.prog 38 = true := by kernel_rfl
theorem zero38 : ∀ w : World, (zeroValue 38).run Try.prog w = .ok (.agg (Array.replicate 64 (.int .u8 0))) w := fun w => by kernel_rfl
theorem sz41 : (Try.prog.info? 41).map (·.size) = some 1 := by kernel_rfl
theorem pos41 : szPos Try.prog 41 = true := by kernel_rfl
theorem zero41 : ∀ w : World, (zeroValue 41).run Try.prog w = .ok (.slice none 0 0) w := fun w => by kernel_rfl
theorem sz48 : (Try.prog.info? 48).map (·.size) = some 1 := by kernel_rfl
theorem pos48 : szPos Try.prog 48 = true := by kernel_rfl
theorem zero48 : ∀ w : World, (zeroValue 48).run Try.prog w = .ok (.slice none 0 0) w := fun w => by kernel_rfl
theorem sz49 : (Try.prog.info? 49).map (·.size) = some 1 := by kernel_rfl
theorem pos49 : szPos Try.prog 49 = true := by kernel_rfl
theorem zero49 : ∀ w : World, (zeroValue 49).run Try.prog w = .ok (.int .u64 0) w := fun w => by kernel_rfl
theorem sz52 : (Try.prog.info? 52).map (·.size) = some 1 := by kernel_rfl
theorem pos52 : szPos Try.prog 52 = true := by kernel_rfl
theorem zero52 : ∀ w : World, (zeroValue 52).run Try.prog w = .ok (.pointer none) w := fun w => by kernel_rfl
theorem sz54 : (Try.prog.info? 54).map (·.size) = some 8 := by kernel_rfl
theorem pos54 : szPos Try.prog 54 = true := by kernel_rfl
theorem zero54 : ∀ w : World, (zeroValue 54).run Try.prog w = .ok (.agg #[(.int .u8 0), (.int .u8 0), (.int .u8 0), (.int .u8 0), (.int .u8 0), (.int .u8 0), (.int .u8 0), (.int .u8 0)]) w := fun w => by kernel_rfl
theorem sz55 : (Try.prog.info? 55).map (·.size) = some 2 := by kernel_rfl
theorem pos55 : szPos Try.prog 55 = true := by kernel_rfl
theorem zero55 : ∀ w : World, (zeroValue 55).run Try.prog w = .ok (.agg #[(.int .u8 0), (.int .u8 0)]) w := fun w => by kernel_rfl
theorem sz56 : (Try.prog.info? 56).map (·.size) = some 16 := by kernel_rfl
theorem pos56 : szPos Try.prog 56 = true := by kernel_rfl
theorem zero56 : ∀ w : World, (zeroValue 56).run Try.prog w = .ok (.agg (Array.replicate 16 (.int .u8 0))) w := fun w => by kernel_rfl
theorem sz57 : (Try.prog.info? 57).map (·.size) = some 1 := by kernel_rfl
theorem pos57 : szPos Try.prog 57 = true := by kernel_rfl
theorem zero57 : ∀ w : World, (zeroValue 57).run Try.prog w = .ok (.slice none 0 0) w := fun w => by kernel_rfl
theorem mixed : Try.prog.follows .mixedOrders = true := by kernel_rfl
end Go.Proofs.Ytkkkjmppbladeaa.T
