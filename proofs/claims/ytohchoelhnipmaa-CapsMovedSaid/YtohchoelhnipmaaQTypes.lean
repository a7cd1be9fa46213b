/- The shapes of this translation's types, as the logic Q asks for them. -/
import Derived.Test.YtohchoelhnipmaaQAuto
import Derived.Test.YtohchoelhnipmaaProg
namespace Go.Proofs.Ytohchoelhnipmaa.Q
open Go Go.RowKit

def ti3 : TI := ⟨1, .int .i64, [.int .i64 0]⟩
theorem ty3 : TyOK Try.prog 3 ti3 := ⟨by kernel_rfl, by kernel_rfl, by kernel_rfl⟩
def ti4 : TI := ⟨1, .bool, [.bool false]⟩
theorem ty4 : TyOK Try.prog 4 ti4 := ⟨by kernel_rfl, by kernel_rfl, by kernel_rfl⟩
def ti9 : TI := ⟨1, .string, [.string ⟨#[]⟩]⟩
theorem ty9 : TyOK Try.prog 9 ti9 := ⟨by kernel_rfl, by kernel_rfl, by kernel_rfl⟩
def ti29 : TI := ⟨1, .slice 57 5 48, [.slice none 0 0]⟩
theorem ty29 : TyOK Try.prog 29 ti29 := ⟨by kernel_rfl, by kernel_rfl, by kernel_rfl⟩
def ti31 : TI := ⟨5, .struct [(0, 1, false), (1, 1, false), (2, 1, false), (3, 1, false), (4, 1, false)], [.int .i64 0, .int .i64 0, .int .i64 0, .string ⟨#[]⟩, .slice none 0 0]⟩
theorem ty31 : TyOK Try.prog 31 ti31 := ⟨by kernel_rfl, by kernel_rfl, by kernel_rfl⟩
def ti33 : TI := ⟨1, .slice 31 5 64, [.slice none 0 0]⟩
theorem ty33 : TyOK Try.prog 33 ti33 := ⟨by kernel_rfl, by kernel_rfl, by kernel_rfl⟩
def ti37 : TI := ⟨1, .slice 3 1 8, [.slice none 0 0]⟩
theorem ty37 : TyOK Try.prog 37 ti37 := ⟨by kernel_rfl, by kernel_rfl, by kernel_rfl⟩
def ti57 : TI := ⟨5, .struct [(0, 1, false), (1, 1, false), (2, 1, false), (3, 1, false), (4, 1, false)], [.int .i64 0, .int .i64 0, .int .i64 0, .int .i64 0, .string ⟨#[]⟩]⟩
theorem ty57 : TyOK Try.prog 57 ti57 := ⟨by kernel_rfl, by kernel_rfl, by kernel_rfl⟩

def tyTab : List (Nat × TI) := [(3, ti3), (4, ti4), (9, ti9), (29, ti29), (31, ti31), (33, ti33), (37, ti37), (57, ti57)]
def tyF (t : TypeId) : Option TI := tlook tyTab t
theorem tyOK : FOK Try.prog tyF := fok_of (by
  intro p hp
  simp only [tyTab, List.mem_cons, List.not_mem_nil, or_false] at hp
  rcases hp with rfl | rfl | rfl | rfl | rfl | rfl | rfl | rfl
  all_goals first | exact ty3 | exact ty4 | exact ty9 | exact ty29 | exact ty31 | exact ty33 | exact ty37 | exact ty57)

end Go.Proofs.Ytohchoelhnipmaa.Q
