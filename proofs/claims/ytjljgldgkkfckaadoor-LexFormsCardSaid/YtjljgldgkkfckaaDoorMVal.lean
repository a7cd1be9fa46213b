/- What is asked of a value; the state as the kernel holds it. -/
import Derived.Test.YtjljgldgkkfckaaDoorMStore
namespace Go.Proofs.YtjljgldgkkfckaaDoor.M
open Go Go.RowKit
set_option linter.unusedSimpArgs false
set_option linter.unusedVariables false

noncomputable def V.onBool (z : V) (gbool : Bool → Ans) : Ans :=
  V.rec (motive_1 := fun _ => AnsT) (motive_2 := fun _ => AnsT) (motive_3 := fun _ => AnsT) (.err 11) (fun _ => .err 11) (fun _ => .err 11) (fun _ _ => .err 11) (fun b => gbool b) (fun _ _ => .err 11) (fun _ _ _ => .err 11) (fun _ _ => .err 11) (fun _ _ _ => .err 11) (fun _ _ _ _ => .err 11) (fun _ _ _ => .err 11) (fun _ _ _ => .err 11) (fun _ _ => .err 11) (fun _ _ => .err 11) .ok (fun _ _ _ _ => .ok) .ok (fun _ _ _ _ => .ok) z

theorem V.onBool_inv {z : V} {gbool : Bool → Ans} (h : z.onBool gbool = .ok) : (∃ (b : Bool), z = .bool b ∧ gbool b = .ok) := by
  cases z
  case un => exact Ans.no h
  case sym => exact Ans.no h
  case sc => exact Ans.no h
  case int => exact Ans.no h
  case bool => exact ⟨_, rfl, h⟩
  case ps => exact Ans.no h
  case ro => exact Ans.no h
  case pro => exact Ans.no h
  case ptr => exact Ans.no h
  case sl => exact Ans.no h
  case fn => exact Ans.no h
  case ifc => exact Ans.no h
  case agg => exact Ans.no h
  case tup => exact Ans.no h

noncomputable def V.onInt (z : V) (gint : IntKind → Int → Ans) : Ans :=
  V.rec (motive_1 := fun _ => AnsT) (motive_2 := fun _ => AnsT) (motive_3 := fun _ => AnsT) (.err 12) (fun _ => .err 12) (fun _ => .err 12) (fun k n => gint k n) (fun _ => .err 12) (fun _ _ => .err 12) (fun _ _ _ => .err 12) (fun _ _ => .err 12) (fun _ _ _ => .err 12) (fun _ _ _ _ => .err 12) (fun _ _ _ => .err 12) (fun _ _ _ => .err 12) (fun _ _ => .err 12) (fun _ _ => .err 12) .ok (fun _ _ _ _ => .ok) .ok (fun _ _ _ _ => .ok) z

theorem V.onInt_inv {z : V} {gint : IntKind → Int → Ans} (h : z.onInt gint = .ok) : (∃ (k : IntKind) (n : Int), z = .int k n ∧ gint k n = .ok) := by
  cases z
  case un => exact Ans.no h
  case sym => exact Ans.no h
  case sc => exact Ans.no h
  case int => exact ⟨_, _, rfl, h⟩
  case bool => exact Ans.no h
  case ps => exact Ans.no h
  case ro => exact Ans.no h
  case pro => exact Ans.no h
  case ptr => exact Ans.no h
  case sl => exact Ans.no h
  case fn => exact Ans.no h
  case ifc => exact Ans.no h
  case agg => exact Ans.no h
  case tup => exact Ans.no h

noncomputable def V.onPs (z : V) (gps : Nat → Nat → Ans) : Ans :=
  V.rec (motive_1 := fun _ => AnsT) (motive_2 := fun _ => AnsT) (motive_3 := fun _ => AnsT) (.err 13) (fun _ => .err 13) (fun _ => .err 13) (fun _ _ => .err 13) (fun _ => .err 13) (fun len n => gps len n) (fun _ _ _ => .err 13) (fun _ _ => .err 13) (fun _ _ _ => .err 13) (fun _ _ _ _ => .err 13) (fun _ _ _ => .err 13) (fun _ _ _ => .err 13) (fun _ _ => .err 13) (fun _ _ => .err 13) .ok (fun _ _ _ _ => .ok) .ok (fun _ _ _ _ => .ok) z

theorem V.onPs_inv {z : V} {gps : Nat → Nat → Ans} (h : z.onPs gps = .ok) : (∃ (len : Nat) (n : Nat), z = .ps len n ∧ gps len n = .ok) := by
  cases z
  case un => exact Ans.no h
  case sym => exact Ans.no h
  case sc => exact Ans.no h
  case int => exact Ans.no h
  case bool => exact Ans.no h
  case ps => exact ⟨_, _, rfl, h⟩
  case ro => exact Ans.no h
  case pro => exact Ans.no h
  case ptr => exact Ans.no h
  case sl => exact Ans.no h
  case fn => exact Ans.no h
  case ifc => exact Ans.no h
  case agg => exact Ans.no h
  case tup => exact Ans.no h

noncomputable def V.onAd (z : V) (gptr : Nat → Nat → Nat → Ans) (gpro : List V → Ans) : Ans :=
  V.rec (motive_1 := fun _ => AnsT) (motive_2 := fun _ => AnsT) (motive_3 := fun _ => AnsT) (.err 14) (fun _ => .err 14) (fun _ => .err 14) (fun _ _ => .err 14) (fun _ => .err 14) (fun _ _ => .err 14) (fun _ _ _ => .err 14) (fun cells _ => gpro cells) (fun k r c => gptr k r c) (fun _ _ _ _ => .err 14) (fun _ _ _ => .err 14) (fun _ _ _ => .err 14) (fun _ _ => .err 14) (fun _ _ => .err 14) .ok (fun _ _ _ _ => .ok) .ok (fun _ _ _ _ => .ok) z

theorem V.onAd_inv {z : V} {gptr : Nat → Nat → Nat → Ans} {gpro : List V → Ans} (h : z.onAd gptr gpro = .ok) : (∃ (k : Nat) (r : Nat) (c : Nat), z = .ptr k r c ∧ gptr k r c = .ok) ∨ (∃ (cells : List V), z = .pro cells ∧ gpro cells = .ok) := by
  cases z
  case un => exact Ans.no h
  case sym => exact Ans.no h
  case sc => exact Ans.no h
  case int => exact Ans.no h
  case bool => exact Ans.no h
  case ps => exact Ans.no h
  case ro => exact Ans.no h
  case pro => exact .inr (⟨_, rfl, h⟩)
  case ptr => exact .inl ⟨_, _, _, rfl, h⟩
  case sl => exact Ans.no h
  case fn => exact Ans.no h
  case ifc => exact Ans.no h
  case agg => exact Ans.no h
  case tup => exact Ans.no h

noncomputable def V.onPtr (z : V) (gptr : Nat → Nat → Nat → Ans) : Ans :=
  V.rec (motive_1 := fun _ => AnsT) (motive_2 := fun _ => AnsT) (motive_3 := fun _ => AnsT) (.err 15) (fun _ => .err 15) (fun _ => .err 15) (fun _ _ => .err 15) (fun _ => .err 15) (fun _ _ => .err 15) (fun _ _ _ => .err 15) (fun _ _ => .err 15) (fun k r c => gptr k r c) (fun _ _ _ _ => .err 15) (fun _ _ _ => .err 15) (fun _ _ _ => .err 15) (fun _ _ => .err 15) (fun _ _ => .err 15) .ok (fun _ _ _ _ => .ok) .ok (fun _ _ _ _ => .ok) z

theorem V.onPtr_inv {z : V} {gptr : Nat → Nat → Nat → Ans} (h : z.onPtr gptr = .ok) : (∃ (k : Nat) (r : Nat) (c : Nat), z = .ptr k r c ∧ gptr k r c = .ok) := by
  cases z
  case un => exact Ans.no h
  case sym => exact Ans.no h
  case sc => exact Ans.no h
  case int => exact Ans.no h
  case bool => exact Ans.no h
  case ps => exact Ans.no h
  case ro => exact Ans.no h
  case pro => exact Ans.no h
  case ptr => exact ⟨_, _, _, rfl, h⟩
  case sl => exact Ans.no h
  case fn => exact Ans.no h
  case ifc => exact Ans.no h
  case agg => exact Ans.no h
  case tup => exact Ans.no h

noncomputable def V.onTup (z : V) (gtup : List V → Ans) : Ans :=
  V.rec (motive_1 := fun _ => AnsT) (motive_2 := fun _ => AnsT) (motive_3 := fun _ => AnsT) (.err 16) (fun _ => .err 16) (fun _ => .err 16) (fun _ _ => .err 16) (fun _ => .err 16) (fun _ _ => .err 16) (fun _ _ _ => .err 16) (fun _ _ => .err 16) (fun _ _ _ => .err 16) (fun _ _ _ _ => .err 16) (fun _ _ _ => .err 16) (fun _ _ _ => .err 16) (fun _ _ => .err 16) (fun l _ => gtup l) .ok (fun _ _ _ _ => .ok) .ok (fun _ _ _ _ => .ok) z

theorem V.onTup_inv {z : V} {gtup : List V → Ans} (h : z.onTup gtup = .ok) : (∃ (l : List V), z = .tup l ∧ gtup l = .ok) := by
  cases z
  case un => exact Ans.no h
  case sym => exact Ans.no h
  case sc => exact Ans.no h
  case int => exact Ans.no h
  case bool => exact Ans.no h
  case ps => exact Ans.no h
  case ro => exact Ans.no h
  case pro => exact Ans.no h
  case ptr => exact Ans.no h
  case sl => exact Ans.no h
  case fn => exact Ans.no h
  case ifc => exact Ans.no h
  case agg => exact Ans.no h
  case tup => exact ⟨_, rfl, h⟩

noncomputable def V.onAgg (z : V) (gagg : List V → Ans) : Ans :=
  V.rec (motive_1 := fun _ => AnsT) (motive_2 := fun _ => AnsT) (motive_3 := fun _ => AnsT) (.err 17) (fun _ => .err 17) (fun _ => .err 17) (fun _ _ => .err 17) (fun _ => .err 17) (fun _ _ => .err 17) (fun _ _ _ => .err 17) (fun _ _ => .err 17) (fun _ _ _ => .err 17) (fun _ _ _ _ => .err 17) (fun _ _ _ => .err 17) (fun _ _ _ => .err 17) (fun l _ => gagg l) (fun _ _ => .err 17) .ok (fun _ _ _ _ => .ok) .ok (fun _ _ _ _ => .ok) z

theorem V.onAgg_inv {z : V} {gagg : List V → Ans} (h : z.onAgg gagg = .ok) : (∃ (l : List V), z = .agg l ∧ gagg l = .ok) := by
  cases z
  case un => exact Ans.no h
  case sym => exact Ans.no h
  case sc => exact Ans.no h
  case int => exact Ans.no h
  case bool => exact Ans.no h
  case ps => exact Ans.no h
  case ro => exact Ans.no h
  case pro => exact Ans.no h
  case ptr => exact Ans.no h
  case sl => exact Ans.no h
  case fn => exact Ans.no h
  case ifc => exact Ans.no h
  case agg => exact ⟨_, rfl, h⟩
  case tup => exact Ans.no h

noncomputable def V.onFn (z : V) (gfn : FuncId → List V → Ans) : Ans :=
  V.rec (motive_1 := fun _ => AnsT) (motive_2 := fun _ => AnsT) (motive_3 := fun _ => AnsT) (.err 18) (fun _ => .err 18) (fun _ => .err 18) (fun _ _ => .err 18) (fun _ => .err 18) (fun _ _ => .err 18) (fun _ _ _ => .err 18) (fun _ _ => .err 18) (fun _ _ _ => .err 18) (fun _ _ _ _ => .err 18) (fun f cap _ => gfn f cap) (fun _ _ _ => .err 18) (fun _ _ => .err 18) (fun _ _ => .err 18) .ok (fun _ _ _ _ => .ok) .ok (fun _ _ _ _ => .ok) z

theorem V.onFn_inv {z : V} {gfn : FuncId → List V → Ans} (h : z.onFn gfn = .ok) : (∃ (f : FuncId) (cap : List V), z = .fn f cap ∧ gfn f cap = .ok) := by
  cases z
  case un => exact Ans.no h
  case sym => exact Ans.no h
  case sc => exact Ans.no h
  case int => exact Ans.no h
  case bool => exact Ans.no h
  case ps => exact Ans.no h
  case ro => exact Ans.no h
  case pro => exact Ans.no h
  case ptr => exact Ans.no h
  case sl => exact Ans.no h
  case fn => exact ⟨_, _, rfl, h⟩
  case ifc => exact Ans.no h
  case agg => exact Ans.no h
  case tup => exact Ans.no h

noncomputable def V.onIfc (z : V) (gifc : TypeId → V → Ans) : Ans :=
  V.rec (motive_1 := fun _ => AnsT) (motive_2 := fun _ => AnsT) (motive_3 := fun _ => AnsT) (.err 19) (fun _ => .err 19) (fun _ => .err 19) (fun _ _ => .err 19) (fun _ => .err 19) (fun _ _ => .err 19) (fun _ _ _ => .err 19) (fun _ _ => .err 19) (fun _ _ _ => .err 19) (fun _ _ _ _ => .err 19) (fun _ _ _ => .err 19) (fun t v _ => gifc t v) (fun _ _ => .err 19) (fun _ _ => .err 19) .ok (fun _ _ _ _ => .ok) .ok (fun _ _ _ _ => .ok) z

theorem V.onIfc_inv {z : V} {gifc : TypeId → V → Ans} (h : z.onIfc gifc = .ok) : (∃ (t : TypeId) (v : V), z = .ifc t v ∧ gifc t v = .ok) := by
  cases z
  case un => exact Ans.no h
  case sym => exact Ans.no h
  case sc => exact Ans.no h
  case int => exact Ans.no h
  case bool => exact Ans.no h
  case ps => exact Ans.no h
  case ro => exact Ans.no h
  case pro => exact Ans.no h
  case ptr => exact Ans.no h
  case sl => exact Ans.no h
  case fn => exact Ans.no h
  case ifc => exact ⟨_, _, rfl, h⟩
  case agg => exact Ans.no h
  case tup => exact Ans.no h

noncomputable def V.onUn (z : V) (gun : Ans) : Ans :=
  V.rec (motive_1 := fun _ => AnsT) (motive_2 := fun _ => AnsT) (motive_3 := fun _ => AnsT) gun (fun _ => .err 20) (fun _ => .err 20) (fun _ _ => .err 20) (fun _ => .err 20) (fun _ _ => .err 20) (fun _ _ _ => .err 20) (fun _ _ => .err 20) (fun _ _ _ => .err 20) (fun _ _ _ _ => .err 20) (fun _ _ _ => .err 20) (fun _ _ _ => .err 20) (fun _ _ => .err 20) (fun _ _ => .err 20) .ok (fun _ _ _ _ => .ok) .ok (fun _ _ _ _ => .ok) z

theorem V.onUn_inv {z : V} {gun : Ans} (h : z.onUn gun = .ok) : (z = .un  ∧ gun  = .ok) := by
  cases z
  case un => exact ⟨rfl, h⟩
  case sym => exact Ans.no h
  case sc => exact Ans.no h
  case int => exact Ans.no h
  case bool => exact Ans.no h
  case ps => exact Ans.no h
  case ro => exact Ans.no h
  case pro => exact Ans.no h
  case ptr => exact Ans.no h
  case sl => exact Ans.no h
  case fn => exact Ans.no h
  case ifc => exact Ans.no h
  case agg => exact Ans.no h
  case tup => exact Ans.no h

noncomputable def V.onLen (z : V) (gsl : Nat → Nat → Nat → Bool → Ans) (gro : Nat → List (List V) → Ans) (gps : Nat → Nat → Ans) (gsc : Value → Ans) : Ans :=
  V.rec (motive_1 := fun _ => AnsT) (motive_2 := fun _ => AnsT) (motive_3 := fun _ => AnsT) (.err 21) (fun _ => .err 21) (fun v => gsc v) (fun _ _ => .err 21) (fun _ => .err 21) (fun len n => gps len n) (fun s rows _ => gro s rows) (fun _ _ => .err 21) (fun _ _ _ => .err 21) (fun k off len full => gsl k off len full) (fun _ _ _ => .err 21) (fun _ _ _ => .err 21) (fun _ _ => .err 21) (fun _ _ => .err 21) .ok (fun _ _ _ _ => .ok) .ok (fun _ _ _ _ => .ok) z

theorem V.onLen_inv {z : V} {gsl : Nat → Nat → Nat → Bool → Ans} {gro : Nat → List (List V) → Ans} {gps : Nat → Nat → Ans} {gsc : Value → Ans} (h : z.onLen gsl gro gps gsc = .ok) : (∃ (k : Nat) (off : Nat) (len : Nat) (full : Bool), z = .sl k off len full ∧ gsl k off len full = .ok) ∨ (∃ (s : Nat) (rows : List (List V)), z = .ro s rows ∧ gro s rows = .ok) ∨ (∃ (len : Nat) (n : Nat), z = .ps len n ∧ gps len n = .ok) ∨ (∃ (v : Value), z = .sc v ∧ gsc v = .ok) := by
  cases z
  case un => exact Ans.no h
  case sym => exact Ans.no h
  case sc => exact .inr (.inr (.inr (⟨_, rfl, h⟩)))
  case int => exact Ans.no h
  case bool => exact Ans.no h
  case ps => exact .inr (.inr (.inl ⟨_, _, rfl, h⟩))
  case ro => exact .inr (.inl ⟨_, _, rfl, h⟩)
  case pro => exact Ans.no h
  case ptr => exact Ans.no h
  case sl => exact .inl ⟨_, _, _, _, rfl, h⟩
  case fn => exact Ans.no h
  case ifc => exact Ans.no h
  case agg => exact Ans.no h
  case tup => exact Ans.no h

noncomputable def V.onRow (z : V) (gsl : Nat → Nat → Nat → Bool → Ans) (gro : Nat → List (List V) → Ans) : Ans :=
  V.rec (motive_1 := fun _ => AnsT) (motive_2 := fun _ => AnsT) (motive_3 := fun _ => AnsT) (.err 22) (fun _ => .err 22) (fun _ => .err 22) (fun _ _ => .err 22) (fun _ => .err 22) (fun _ _ => .err 22) (fun s rows _ => gro s rows) (fun _ _ => .err 22) (fun _ _ _ => .err 22) (fun k off len full => gsl k off len full) (fun _ _ _ => .err 22) (fun _ _ _ => .err 22) (fun _ _ => .err 22) (fun _ _ => .err 22) .ok (fun _ _ _ _ => .ok) .ok (fun _ _ _ _ => .ok) z

theorem V.onRow_inv {z : V} {gsl : Nat → Nat → Nat → Bool → Ans} {gro : Nat → List (List V) → Ans} (h : z.onRow gsl gro = .ok) : (∃ (k : Nat) (off : Nat) (len : Nat) (full : Bool), z = .sl k off len full ∧ gsl k off len full = .ok) ∨ (∃ (s : Nat) (rows : List (List V)), z = .ro s rows ∧ gro s rows = .ok) := by
  cases z
  case un => exact Ans.no h
  case sym => exact Ans.no h
  case sc => exact Ans.no h
  case int => exact Ans.no h
  case bool => exact Ans.no h
  case ps => exact Ans.no h
  case ro => exact .inr (⟨_, _, rfl, h⟩)
  case pro => exact Ans.no h
  case ptr => exact Ans.no h
  case sl => exact .inl ⟨_, _, _, _, rfl, h⟩
  case fn => exact Ans.no h
  case ifc => exact Ans.no h
  case agg => exact Ans.no h
  case tup => exact Ans.no h

noncomputable def V.onSl (z : V) (gsl : Nat → Nat → Nat → Bool → Ans) (gsc : Value → Ans) : Ans :=
  V.rec (motive_1 := fun _ => AnsT) (motive_2 := fun _ => AnsT) (motive_3 := fun _ => AnsT) (.err 23) (fun _ => .err 23) (fun v => gsc v) (fun _ _ => .err 23) (fun _ => .err 23) (fun _ _ => .err 23) (fun _ _ _ => .err 23) (fun _ _ => .err 23) (fun _ _ _ => .err 23) (fun k off len full => gsl k off len full) (fun _ _ _ => .err 23) (fun _ _ _ => .err 23) (fun _ _ => .err 23) (fun _ _ => .err 23) .ok (fun _ _ _ _ => .ok) .ok (fun _ _ _ _ => .ok) z

theorem V.onSl_inv {z : V} {gsl : Nat → Nat → Nat → Bool → Ans} {gsc : Value → Ans} (h : z.onSl gsl gsc = .ok) : (∃ (k : Nat) (off : Nat) (len : Nat) (full : Bool), z = .sl k off len full ∧ gsl k off len full = .ok) ∨ (∃ (v : Value), z = .sc v ∧ gsc v = .ok) := by
  cases z
  case un => exact Ans.no h
  case sym => exact Ans.no h
  case sc => exact .inr (⟨_, rfl, h⟩)
  case int => exact Ans.no h
  case bool => exact Ans.no h
  case ps => exact Ans.no h
  case ro => exact Ans.no h
  case pro => exact Ans.no h
  case ptr => exact Ans.no h
  case sl => exact .inl ⟨_, _, _, _, rfl, h⟩
  case fn => exact Ans.no h
  case ifc => exact Ans.no h
  case agg => exact Ans.no h
  case tup => exact Ans.no h

noncomputable def V.onSlPs (z : V) (gsl : Nat → Nat → Nat → Bool → Ans) (gps : Nat → Nat → Ans) (gsc : Value → Ans) : Ans :=
  V.rec (motive_1 := fun _ => AnsT) (motive_2 := fun _ => AnsT) (motive_3 := fun _ => AnsT) (.err 24) (fun _ => .err 24) (fun v => gsc v) (fun _ _ => .err 24) (fun _ => .err 24) (fun len n => gps len n) (fun _ _ _ => .err 24) (fun _ _ => .err 24) (fun _ _ _ => .err 24) (fun k off len full => gsl k off len full) (fun _ _ _ => .err 24) (fun _ _ _ => .err 24) (fun _ _ => .err 24) (fun _ _ => .err 24) .ok (fun _ _ _ _ => .ok) .ok (fun _ _ _ _ => .ok) z

theorem V.onSlPs_inv {z : V} {gsl : Nat → Nat → Nat → Bool → Ans} {gps : Nat → Nat → Ans} {gsc : Value → Ans} (h : z.onSlPs gsl gps gsc = .ok) : (∃ (k : Nat) (off : Nat) (len : Nat) (full : Bool), z = .sl k off len full ∧ gsl k off len full = .ok) ∨ (∃ (len : Nat) (n : Nat), z = .ps len n ∧ gps len n = .ok) ∨ (∃ (v : Value), z = .sc v ∧ gsc v = .ok) := by
  cases z
  case un => exact Ans.no h
  case sym => exact Ans.no h
  case sc => exact .inr (.inr (⟨_, rfl, h⟩))
  case int => exact Ans.no h
  case bool => exact Ans.no h
  case ps => exact .inr (.inl ⟨_, _, rfl, h⟩)
  case ro => exact Ans.no h
  case pro => exact Ans.no h
  case ptr => exact Ans.no h
  case sl => exact .inl ⟨_, _, _, _, rfl, h⟩
  case fn => exact Ans.no h
  case ifc => exact Ans.no h
  case agg => exact Ans.no h
  case tup => exact Ans.no h

noncomputable def V.onNilS (z : V) (gsl : Nat → Nat → Nat → Bool → Ans) (gro : Nat → List (List V) → Ans) (gsc : Value → Ans) : Ans :=
  V.rec (motive_1 := fun _ => AnsT) (motive_2 := fun _ => AnsT) (motive_3 := fun _ => AnsT) (.err 25) (fun _ => .err 25) (fun v => gsc v) (fun _ _ => .err 25) (fun _ => .err 25) (fun _ _ => .err 25) (fun s rows _ => gro s rows) (fun _ _ => .err 25) (fun _ _ _ => .err 25) (fun k off len full => gsl k off len full) (fun _ _ _ => .err 25) (fun _ _ _ => .err 25) (fun _ _ => .err 25) (fun _ _ => .err 25) .ok (fun _ _ _ _ => .ok) .ok (fun _ _ _ _ => .ok) z

theorem V.onNilS_inv {z : V} {gsl : Nat → Nat → Nat → Bool → Ans} {gro : Nat → List (List V) → Ans} {gsc : Value → Ans} (h : z.onNilS gsl gro gsc = .ok) : (∃ (k : Nat) (off : Nat) (len : Nat) (full : Bool), z = .sl k off len full ∧ gsl k off len full = .ok) ∨ (∃ (s : Nat) (rows : List (List V)), z = .ro s rows ∧ gro s rows = .ok) ∨ (∃ (v : Value), z = .sc v ∧ gsc v = .ok) := by
  cases z
  case un => exact Ans.no h
  case sym => exact Ans.no h
  case sc => exact .inr (.inr (⟨_, rfl, h⟩))
  case int => exact Ans.no h
  case bool => exact Ans.no h
  case ps => exact Ans.no h
  case ro => exact .inr (.inl ⟨_, _, rfl, h⟩)
  case pro => exact Ans.no h
  case ptr => exact Ans.no h
  case sl => exact .inl ⟨_, _, _, _, rfl, h⟩
  case fn => exact Ans.no h
  case ifc => exact Ans.no h
  case agg => exact Ans.no h
  case tup => exact Ans.no h

noncomputable def V.onNilI (z : V) (gifc : TypeId → V → Ans) (gsc : Value → Ans) : Ans :=
  V.rec (motive_1 := fun _ => AnsT) (motive_2 := fun _ => AnsT) (motive_3 := fun _ => AnsT) (.err 26) (fun _ => .err 26) (fun v => gsc v) (fun _ _ => .err 26) (fun _ => .err 26) (fun _ _ => .err 26) (fun _ _ _ => .err 26) (fun _ _ => .err 26) (fun _ _ _ => .err 26) (fun _ _ _ _ => .err 26) (fun _ _ _ => .err 26) (fun t v _ => gifc t v) (fun _ _ => .err 26) (fun _ _ => .err 26) .ok (fun _ _ _ _ => .ok) .ok (fun _ _ _ _ => .ok) z

theorem V.onNilI_inv {z : V} {gifc : TypeId → V → Ans} {gsc : Value → Ans} (h : z.onNilI gifc gsc = .ok) : (∃ (t : TypeId) (v : V), z = .ifc t v ∧ gifc t v = .ok) ∨ (∃ (v : Value), z = .sc v ∧ gsc v = .ok) := by
  cases z
  case un => exact Ans.no h
  case sym => exact Ans.no h
  case sc => exact .inr (⟨_, rfl, h⟩)
  case int => exact Ans.no h
  case bool => exact Ans.no h
  case ps => exact Ans.no h
  case ro => exact Ans.no h
  case pro => exact Ans.no h
  case ptr => exact Ans.no h
  case sl => exact Ans.no h
  case fn => exact Ans.no h
  case ifc => exact .inl ⟨_, _, rfl, h⟩
  case agg => exact Ans.no h
  case tup => exact Ans.no h

noncomputable def V.onGuard (z : V) (gbool : Bool → Ans) (gsc : Value → Ans) : Ans :=
  V.rec (motive_1 := fun _ => AnsT) (motive_2 := fun _ => AnsT) (motive_3 := fun _ => AnsT) (.err 27) (fun _ => .err 27) (fun v => gsc v) (fun _ _ => .err 27) (fun b => gbool b) (fun _ _ => .err 27) (fun _ _ _ => .err 27) (fun _ _ => .err 27) (fun _ _ _ => .err 27) (fun _ _ _ _ => .err 27) (fun _ _ _ => .err 27) (fun _ _ _ => .err 27) (fun _ _ => .err 27) (fun _ _ => .err 27) .ok (fun _ _ _ _ => .ok) .ok (fun _ _ _ _ => .ok) z

theorem V.onGuard_inv {z : V} {gbool : Bool → Ans} {gsc : Value → Ans} (h : z.onGuard gbool gsc = .ok) : (∃ (b : Bool), z = .bool b ∧ gbool b = .ok) ∨ (∃ (v : Value), z = .sc v ∧ gsc v = .ok) := by
  cases z
  case un => exact Ans.no h
  case sym => exact Ans.no h
  case sc => exact .inr (⟨_, rfl, h⟩)
  case int => exact Ans.no h
  case bool => exact .inl ⟨_, rfl, h⟩
  case ps => exact Ans.no h
  case ro => exact Ans.no h
  case pro => exact Ans.no h
  case ptr => exact Ans.no h
  case sl => exact Ans.no h
  case fn => exact Ans.no h
  case ifc => exact Ans.no h
  case agg => exact Ans.no h
  case tup => exact Ans.no h

noncomputable def V.onThere (z : V) (gptr : Nat → Nat → Nat → Ans) (gpro : List V → Ans) (gfn : FuncId → List V → Ans) (gsc : Value → Ans) : Ans :=
  V.rec (motive_1 := fun _ => AnsT) (motive_2 := fun _ => AnsT) (motive_3 := fun _ => AnsT) (.err 28) (fun _ => .err 28) (fun v => gsc v) (fun _ _ => .err 28) (fun _ => .err 28) (fun _ _ => .err 28) (fun _ _ _ => .err 28) (fun cells _ => gpro cells) (fun k r c => gptr k r c) (fun _ _ _ _ => .err 28) (fun f cap _ => gfn f cap) (fun _ _ _ => .err 28) (fun _ _ => .err 28) (fun _ _ => .err 28) .ok (fun _ _ _ _ => .ok) .ok (fun _ _ _ _ => .ok) z

theorem V.onThere_inv {z : V} {gptr : Nat → Nat → Nat → Ans} {gpro : List V → Ans} {gfn : FuncId → List V → Ans} {gsc : Value → Ans} (h : z.onThere gptr gpro gfn gsc = .ok) : (∃ (k : Nat) (r : Nat) (c : Nat), z = .ptr k r c ∧ gptr k r c = .ok) ∨ (∃ (cells : List V), z = .pro cells ∧ gpro cells = .ok) ∨ (∃ (f : FuncId) (cap : List V), z = .fn f cap ∧ gfn f cap = .ok) ∨ (∃ (v : Value), z = .sc v ∧ gsc v = .ok) := by
  cases z
  case un => exact Ans.no h
  case sym => exact Ans.no h
  case sc => exact .inr (.inr (.inr (⟨_, rfl, h⟩)))
  case int => exact Ans.no h
  case bool => exact Ans.no h
  case ps => exact Ans.no h
  case ro => exact Ans.no h
  case pro => exact .inr (.inl ⟨_, rfl, h⟩)
  case ptr => exact .inl ⟨_, _, _, rfl, h⟩
  case sl => exact Ans.no h
  case fn => exact .inr (.inr (.inl ⟨_, _, rfl, h⟩))
  case ifc => exact Ans.no h
  case agg => exact Ans.no h
  case tup => exact Ans.no h

noncomputable def V.onIB (z : V) (gint : IntKind → Int → Ans) (gbool : Bool → Ans) : Ans :=
  V.rec (motive_1 := fun _ => AnsT) (motive_2 := fun _ => AnsT) (motive_3 := fun _ => AnsT) (.err 29) (fun _ => .err 29) (fun _ => .err 29) (fun k n => gint k n) (fun b => gbool b) (fun _ _ => .err 29) (fun _ _ _ => .err 29) (fun _ _ => .err 29) (fun _ _ _ => .err 29) (fun _ _ _ _ => .err 29) (fun _ _ _ => .err 29) (fun _ _ _ => .err 29) (fun _ _ => .err 29) (fun _ _ => .err 29) .ok (fun _ _ _ _ => .ok) .ok (fun _ _ _ _ => .ok) z

theorem V.onIB_inv {z : V} {gint : IntKind → Int → Ans} {gbool : Bool → Ans} (h : z.onIB gint gbool = .ok) : (∃ (k : IntKind) (n : Int), z = .int k n ∧ gint k n = .ok) ∨ (∃ (b : Bool), z = .bool b ∧ gbool b = .ok) := by
  cases z
  case un => exact Ans.no h
  case sym => exact Ans.no h
  case sc => exact Ans.no h
  case int => exact .inl ⟨_, _, rfl, h⟩
  case bool => exact .inr (⟨_, rfl, h⟩)
  case ps => exact Ans.no h
  case ro => exact Ans.no h
  case pro => exact Ans.no h
  case ptr => exact Ans.no h
  case sl => exact Ans.no h
  case fn => exact Ans.no h
  case ifc => exact Ans.no h
  case agg => exact Ans.no h
  case tup => exact Ans.no h

noncomputable def V.onSc (z : V) (gsc : Value → Ans) : Ans :=
  V.rec (motive_1 := fun _ => AnsT) (motive_2 := fun _ => AnsT) (motive_3 := fun _ => AnsT) (.err 30) (fun _ => .err 30) (fun v => gsc v) (fun _ _ => .err 30) (fun _ => .err 30) (fun _ _ => .err 30) (fun _ _ _ => .err 30) (fun _ _ => .err 30) (fun _ _ _ => .err 30) (fun _ _ _ _ => .err 30) (fun _ _ _ => .err 30) (fun _ _ _ => .err 30) (fun _ _ => .err 30) (fun _ _ => .err 30) .ok (fun _ _ _ _ => .ok) .ok (fun _ _ _ _ => .ok) z

theorem V.onSc_inv {z : V} {gsc : Value → Ans} (h : z.onSc gsc = .ok) : (∃ (v : Value), z = .sc v ∧ gsc v = .ok) := by
  cases z
  case un => exact Ans.no h
  case sym => exact Ans.no h
  case sc => exact ⟨_, rfl, h⟩
  case int => exact Ans.no h
  case bool => exact Ans.no h
  case ps => exact Ans.no h
  case ro => exact Ans.no h
  case pro => exact Ans.no h
  case ptr => exact Ans.no h
  case sl => exact Ans.no h
  case fn => exact Ans.no h
  case ifc => exact Ans.no h
  case agg => exact Ans.no h
  case tup => exact Ans.no h

noncomputable def V.onDefs (z : V) (fn : Ans) (ft : List V → Ans) : Ans :=
  V.rec (motive_1 := fun _ => AnsT) (motive_2 := fun _ => AnsT) (motive_3 := fun _ => AnsT) (fn) (fun _ => fn) (fun _ => fn) (fun _ _ => fn) (fun _ => fn) (fun _ _ => fn) (fun _ _ _ => fn) (fun _ _ => fn) (fun _ _ _ => fn) (fun _ _ _ _ => fn) (fun _ _ _ => fn) (fun _ _ _ => fn) (fun _ _ => fn) (fun l _ => ft l) .ok (fun _ _ _ _ => .ok) .ok (fun _ _ _ _ => .ok) z

theorem V.onDefs_inv {z : V} {fn : Ans} {ft : List V → Ans} (h : z.onDefs fn ft = .ok) : (∃ l, z = .tup l ∧ ft l = .ok) ∨ ((∀ l, z ≠ .tup l) ∧ fn = .ok) := by
  cases z
  case tup l => exact .inl ⟨l, rfl, h⟩
  all_goals exact .inr ⟨fun l h => V.noConfusion h, h⟩

/-- The cells that a value takes up. -/
noncomputable def V.onCells (z : V) (f : List V → Ans) : Ans :=
  V.rec (motive_1 := fun _ => AnsT) (motive_2 := fun _ => AnsT) (motive_3 := fun _ => AnsT) (f [z]) (fun _ => f [z]) (fun _ => f [z]) (fun _ _ => f [z]) (fun _ => f [z]) (fun _ _ => f [z]) (fun _ _ _ => f [z]) (fun _ _ => f [z]) (fun _ _ _ => f [z]) (fun _ _ _ _ => f [z]) (fun _ _ _ => f [z]) (fun _ _ _ => f [z]) (fun l _ => f l) (fun _ _ => f [z]) .ok (fun _ _ _ _ => .ok) .ok (fun _ _ _ _ => .ok) z

theorem V.onCells_eq (z : V) (f : List V → Ans) : z.onCells f = f (cellsV z) := by cases z <;> rfl

noncomputable def boolK (b : Bool) (y n : Ans) : Ans := Bool.rec (motive := fun _ => AnsT) n y b
theorem boolK_inv {b : Bool} {y n : Ans} (h : boolK b y n = .ok) : (b = true ∧ y = .ok) ∨ (b = false ∧ n = .ok) := by
  cases b
  · exact .inr ⟨rfl, h⟩
  · exact .inl ⟨rfl, h⟩

/-- It must be so. -/
noncomputable def must (b : Bool) (y : Ans) : Ans := Bool.rec (motive := fun _ => AnsT) (Ans.err 40) y b
theorem must_inv {b : Bool} {y : Ans} (h : must b y = .ok) : b = true ∧ y = .ok := by
  cases b
  · exact Ans.no h
  · exact ⟨rfl, h⟩

noncomputable def forceN (n : Nat) (k : Nat → Ans) : Ans := Nat.rec (motive := fun _ => Ans) (k Nat.zero) (fun m _ => k (Nat.succ m)) n
theorem forceN_eq (n : Nat) (k : Nat → Ans) : forceN n k = k n := by cases n <;> rfl

noncomputable def forceZ (n : Int) (k : Int → Ans) : Ans := Int.rec (motive := fun _ => Ans) (fun n => forceN n fun m => k (.ofNat m)) (fun n => forceN n fun m => k (.negSucc m)) n
theorem forceZ_eq (n : Int) (k : Int → Ans) : forceZ n k = k n := by cases n with
  | ofNat n => exact forceN_eq n fun m => k (.ofNat m)
  | negSucc n => exact forceN_eq n fun m => k (.negSucc m)

noncomputable def forceB (b : Bool) (k : Bool → Ans) : Ans := Bool.rec (k false) (k true) b
theorem forceB_eq (b : Bool) (k : Bool → Ans) : forceB b k = k b := by cases b <;> rfl

noncomputable def onNat (n : Int) (k : Nat → Ans) : Ans := Int.rec (motive := fun _ => AnsT) k (fun _ => .err 41) n
theorem onNat_inv {n : Int} {k : Nat → Ans} (h : onNat n k = .ok) : ∃ m, n = .ofNat m ∧ k m = .ok := by
  cases n
  · exact ⟨_, rfl, h⟩
  · exact Ans.no h

noncomputable def V.one1 (z : V) (y : Ans) : Ans :=
  V.rec (motive_1 := fun _ => AnsT) (motive_2 := fun _ => AnsT) (motive_3 := fun _ => AnsT) (.err 42) (fun i => (fun _ => .err 42) i) (fun v => (fun v => must (V.one (.sc v)) y) v) (fun _ _ => y) (fun _ => y) (fun _ _ => y) (fun _ _ _ => y) (fun _ _ => y) (fun _ _ _ => y) (fun _ _ _ _ => y) (fun _ _ _ => y) (fun _ _ _ => y) (fun l _ => (fun _ => .err 42) l) (fun l _ => (fun _ => .err 42) l) .ok (fun _ _ _ _ => .ok) .ok (fun _ _ _ _ => .ok) z

theorem V.one1_inv {z : V} {y : Ans} (h : z.one1 y = .ok) : z.one = true ∧ y = .ok := by
  cases z
  case sc v => exact must_inv h
  all_goals first
    | exact ⟨rfl, h⟩
    | exact Ans.no h

noncomputable def allOne (l : List V) (y : Ans) : Ans := List.rec (motive := fun _ => AnsT) y (fun q _ ih => q.one1 ih) l
theorem allOne_inv {l : List V} {y : Ans} (h : allOne l y = .ok) : l.all V.one = true ∧ y = .ok := by
  induction l with
  | nil => exact ⟨rfl, h⟩
  | cons q l ih =>
    obtain ⟨h1, h2⟩ := V.one1_inv (z := q) h
    obtain ⟨h3, h4⟩ := ih h2
    exact ⟨by simp [h1, h3], h4⟩

/-! ### Lists -/

structure Nth where
  get : List V → (V → Ans) → Ans
noncomputable def nth (i : Nat) : Nth := Nat.rec (motive := fun _ => Nth) ⟨fun l k => List.rec (motive := fun _ => AnsT) (.err 43) (fun q _ _ => k q) l⟩ (fun _ ih => ⟨fun l k => List.rec (motive := fun _ => AnsT) (.err 43) (fun _ t _ => ih.get t k) l⟩) i
theorem nth_inv : ∀ {i : Nat} {l : List V} {k : V → Ans}, (nth i).get l k = .ok → ∃ q, l[i]? = some q ∧ k q = .ok
  | 0, [], _, h => Ans.no h
  | 0, q :: l, _, h => ⟨q, rfl, h⟩
  | i + 1, [], _, h => Ans.no h
  | i + 1, q :: l, k, h => nth_inv (i := i) (l := l) (k := k) h

structure Lst where
  run : List V → (List V → Ans) → Ans
noncomputable def dropN (i : Nat) : Lst := Nat.rec (motive := fun _ => Lst) ⟨fun l k => k l⟩ (fun _ ih => ⟨fun l k => List.rec (motive := fun _ => AnsT) (k []) (fun _ t _ => ih.run t k) l⟩) i
theorem dropN_inv : ∀ {i : Nat} {l : List V} {k : List V → Ans}, (dropN i).run l k = .ok → k (l.drop i) = .ok
  | 0, l, _, h => h
  | i + 1, [], _, h => h
  | i + 1, q :: l, k, h => dropN_inv (i := i) (l := l) (k := k) h

noncomputable def takeN (i : Nat) : Lst := Nat.rec (motive := fun _ => Lst) ⟨fun l k => k []⟩ (fun _ ih => ⟨fun l k => List.rec (motive := fun _ => AnsT) (.err 44) (fun q t _ => ih.run t fun m => k (q :: m)) l⟩) i
theorem takeN_inv : ∀ {i : Nat} {l : List V} {k : List V → Ans}, (takeN i).run l k = .ok → (l.take i).length = i ∧ k (l.take i) = .ok
  | 0, l, k, h => ⟨by simp, (h : k [] = .ok)⟩
  | i + 1, [], _, h => Ans.no h
  | i + 1, q :: l, k, h => by
    obtain ⟨h1, h2⟩ := takeN_inv (i := i) (l := l) (k := fun m => k (q :: m)) h
    exact ⟨by simp [h1], by simpa using h2⟩

noncomputable def overK (l : List V) : List V → (List V → Ans) → Ans :=
  List.rec (motive := fun _ => List V → (List V → Ans) → Ans) (fun row k => k row) (fun q _ ih row k => List.rec (motive := fun _ => AnsT) (.err 45) (fun _ row' _ => ih row' fun m => k (q :: m)) row) l
theorem overK_inv : ∀ {l row : List V} {k : List V → Ans}, overK l row k = .ok → l.length ≤ row.length ∧ k (overL l row) = .ok
  | [], row, k, h => ⟨by simp, h⟩
  | q :: l, [], k, h => Ans.no h
  | q :: l, x :: row, k, h => by
    obtain ⟨h1, h2⟩ := overK_inv (l := l) (row := row) (k := fun m => k (q :: m)) h
    exact ⟨by simpa using h1, h2⟩

structure Spl where
  run : List V → List V → (List V → Ans) → Ans
noncomputable def spl (c : Nat) : Spl := Nat.rec (motive := fun _ => Spl) ⟨fun row l k => overK l row k⟩ (fun _ ih => ⟨fun row l k => List.rec (motive := fun _ => AnsT) (.err 46) (fun x row' _ => ih.run row' l fun m => k (x :: m)) row⟩) c
theorem spl_inv : ∀ {c : Nat} {row l : List V} {k : List V → Ans}, (spl c).run row l k = .ok → c + l.length ≤ row.length ∧ k (splice c row l) = .ok
  | 0, row, l, k, h => by
    obtain ⟨h1, h2⟩ := overK_inv (l := l) (row := row) (k := k) h
    exact ⟨by omega, h2⟩
  | c + 1, [], l, k, h => Ans.no h
  | c + 1, x :: row, l, k, h => by
    obtain ⟨h1, h2⟩ := spl_inv (c := c) (row := row) (l := l) (k := fun m => k (x :: m)) h
    exact ⟨by simp; omega, h2⟩

/-- Cells that are let alone: of an object m rows from r on, of each n cells from c on. -/
structure PC where
  k : Nat
  r : Nat
  m : Nat
  c : Nat
  n : Nat

def PC.has (e : PC) : CellP := fun k r c => e.k = k ∧ e.r ≤ r ∧ r < e.r + e.m ∧ e.c ≤ c ∧ c < e.c + e.n
def inL (l : List PC) : CellP := fun k r c => ∃ e ∈ l, e.has k r c

/-- None of these is written: n cells of a row from c on. -/
noncomputable def clearK (j r c n : Nat) (l : List PC) (y : Ans) : Ans := List.rec (motive := fun _ => AnsT) y (fun e _ ih => PC.rec (motive := fun _ => AnsT) (fun k r0 m c0 n0 => boolK (Nat.beq k j)
  (boolK (Nat.ble (Nat.succ r) r0) ih (boolK (Nat.ble (Nat.add r0 m) r) ih (boolK (Nat.ble (Nat.add c n) c0) ih (boolK (Nat.ble (Nat.add c0 n0) c) ih (.err (Nat.add 1000000 j)))))) ih) e) l
theorem clearK_inv {j r c n : Nat} {l : List PC} {y : Ans} (h : clearK j r c n l y = .ok) : (∀ i, i < n → ¬ inL l j r (c + i)) ∧ y = .ok := by
  induction l with
  | nil => exact ⟨fun i _ ⟨e, he, _⟩ => (by cases he), h⟩
  | cons e l ih =>
    obtain ⟨k, r0, m, c0, n0⟩ := e
    have go : clearK j r c n l y = .ok → (¬ ∃ i, i < n ∧ PC.has ⟨k, r0, m, c0, n0⟩ j r (c + i)) → (∀ i, i < n → ¬ inL (⟨k, r0, m, c0, n0⟩ :: l) j r (c + i)) ∧ y = .ok := by
      intro h hn
      obtain ⟨h1, h2⟩ := ih h
      refine ⟨fun i hi ⟨e, he, hx⟩ => ?_, h2⟩
      rcases List.mem_cons.mp he with g | g
      · subst g; exact hn ⟨i, hi, hx⟩
      · exact h1 i hi ⟨e, g, hx⟩
    rcases boolK_inv h with ⟨h1, h⟩ | ⟨h1, h⟩
    · rcases boolK_inv h with ⟨h2, h⟩ | ⟨_, h⟩
      · have h2 := Nat.le_of_ble_eq_true h2
        exact go h (by rintro ⟨i, hi, g1, g2, g3, g4, g5⟩; simp only at g2; omega)
      · rcases boolK_inv h with ⟨h2, h⟩ | ⟨_, h⟩
        · have h2 : r0 + m ≤ r := Nat.le_of_ble_eq_true h2
          exact go h (by rintro ⟨i, hi, g1, g2, g3, g4, g5⟩; simp only at g3; omega)
        · rcases boolK_inv h with ⟨h2, h⟩ | ⟨_, h⟩
          · have h2 : c + n ≤ c0 := Nat.le_of_ble_eq_true h2
            exact go h (by rintro ⟨i, hi, g1, g2, g3, g4, g5⟩; simp only at g4; omega)
          · rcases boolK_inv h with ⟨h2, h⟩ | ⟨_, h⟩
            · have h2 : c0 + n0 ≤ c := Nat.le_of_ble_eq_true h2
              exact go h (by rintro ⟨i, hi, g1, g2, g3, g4, g5⟩; simp only at g5; omega)
            · exact Ans.no h
    · refine go h ?_
      rintro ⟨i, hi, g1, _⟩
      have g1 : k = j := g1
      subst g1
      rw [Nat.beq_refl] at h1
      cases h1

noncomputable def noneK (j : Nat) (l : List PC) (y : Ans) : Ans := List.rec (motive := fun _ => AnsT) y (fun e _ ih => PC.rec (motive := fun _ => AnsT) (fun k _ _ _ _ => boolK (Nat.beq k j) (.err (Nat.add 2000000 j)) ih) e) l
theorem noneK_inv {j : Nat} {l : List PC} {y : Ans} (h : noneK j l y = .ok) : (∀ r c, ¬ inL l j r c) ∧ y = .ok := by
  induction l with
  | nil => exact ⟨fun r c ⟨e, he, _⟩ => (by cases he), h⟩
  | cons e l ih =>
    obtain ⟨k, r0, m, c0, n0⟩ := e
    rcases boolK_inv h with ⟨_, h⟩ | ⟨h1, h⟩
    · exact Ans.no h
    · obtain ⟨h2, h3⟩ := ih h
      refine ⟨fun r c ⟨e, he, hx⟩ => ?_, h3⟩
      rcases List.mem_cons.mp he with g | g
      · subst g
        have g1 : k = j := hx.1
        subst g1
        rw [Nat.beq_refl] at h1
        cases h1
      · exact h2 r c ⟨e, g, hx⟩

/-! ### Objects, frames -/

@[reducible] def Tm : Type := N16 (N16 V)

/-- An object: one row of cells; sixteen rows; many. Of the rows n count. -/
inductive KOb where
  | no
  | cell (row : List V)
  | a1 (s n : Nat) (t : N16 (List V))
  | a3 (s n : Nat) (t : N16 (N16 (N16 (List V))))
  | ls (s : Nat) (rows : List (List V))

@[reducible] def Hp : Type := N16 (N16 (N16 (N16 KOb)))

def absK : KOb → Option Ob
  | .no => none
  | .cell row => some (boxOb row)
  | .a1 s n t => some ⟨s, fun r => if r < n then (if r < 16 then some (t.get r) else none) else none⟩
  | .a3 s n t => some ⟨s, fun r => if r < n then (if r < 4096 then some (get3 t r) else none) else none⟩
  | .ls s rows => some ⟨s, fun r => rows[r]?⟩

def absO (hp : Hp) (k : Nat) : Option Ob := if k < 65536 then absK (get4 hp k) else none
def absT (tm : Tm) (t : Nat) : V := if t < 255 then get2 tm t else .un
def absD (tm : Tm) : List V := match get2 tm 255 with
  | .tup l => l
  | _ => []

structure Fr where
  n : Nat
  forb : List PC
  ks : List Nat

def Fr.kept (fr : Fr) (t : Nat) : Bool := fr.ks.contains t

def absS (fr : Fr) (tm : Tm) (hp : Hp) (nx : Nat) : St := ⟨fr.n, absT tm, absO hp, nx, absD tm, inL fr.forb, fr.kept⟩

theorem absT_put {tm : Tm} {d : Nat} {v : V} (hd : d < 255) : absT (put2 tm d v) = fun u => if u = d then v else absT tm u := by
  funext u
  unfold absT
  by_cases h : u < 255
  · rw [if_pos h, if_pos h, get_put2 _ _ _ _ (by omega) (by omega)]
  · rw [if_neg h, if_neg h, if_neg (by omega)]

theorem absD_put {tm : Tm} {d : Nat} {v : V} (hd : d < 255) : absD (put2 tm d v) = absD tm := by
  unfold absD
  rw [get_put2 _ _ _ _ (by omega) (by omega), if_neg (by omega)]

theorem abs_put {fr : Fr} {tm : Tm} {hp : Hp} {nx d : Nat} {v : V} (hd : d < 255) : (absS fr tm hp nx).put (some d) v = absS fr (put2 tm d v) hp nx := by
  unfold absS St.put
  simp only [absT_put hd, absD_put hd]

theorem absO_put {hp : Hp} {k : Nat} {ob : KOb} (hk : k < 65536) : absO (put4 hp k ob) = Objs.put (absO hp) k (absK ob) := by
  funext j
  show (if j < 65536 then absK (get4 (put4 hp k ob) j) else none) = if j = k then absK ob else if j < 65536 then absK (get4 hp j) else none
  by_cases h : j < 65536
  · rw [if_pos h, if_pos h, get_put4 _ _ _ _ hk h]
    split <;> rfl
  · rw [if_neg h, if_neg h, if_neg (by omega)]

/-- The goal: a state from which it goes on well. -/
@[reducible] def K3 : Type := Tm → Hp → Nat → Ans
def NK (fr : Fr) (k : K3) (σ : St) : Prop := ∃ tm hp nx, σ = absS fr tm hp nx ∧ k tm hp nx = .ok

theorem nk_of {fr : Fr} {k : K3} {tm : Tm} {hp : Hp} {nx : Nat} (h : k tm hp nx = .ok) : NK fr k (absS fr tm hp nx) := ⟨tm, hp, nx, rfl, h⟩

/-- A value is handed on (proofs with unknowns stop here, and reckon it). -/
noncomputable def valK (v : V) (k : V → Ans) : Ans := k v

/-- What is said of an operand. -/
structure Opd where
  get : Tm → (V → Ans) → Ans
noncomputable def opd (x : Operand) : Opd := match x with
  | .tmp t => Bool.rec ⟨fun _ _ => .err 48⟩ ⟨fun tm k => valK ((acc2 V t).pr tm) k⟩ (Nat.ble (Nat.succ t) 255)
  | .const v => ⟨fun _ k => k (cv v)⟩
  | .global g => match gdat g with
    | some vs => ⟨fun _ k => k (.pro (vs.map cv))⟩
    | none => ⟨fun _ k => k (.sc (.pointer (some ⟨g, 0, none⟩)))⟩
  | .func f => ⟨fun _ k => k (.fn f [])⟩

theorem opd_inv {x : Operand} {tm : Tm} {k : V → Ans} (h : (opd x).get tm k = .ok) (fr : Fr) (hp : Hp) (nx : Nat) : k (evalV (absS fr tm hp nx) x) = .ok := by
  cases x with
  | tmp t =>
    have h : (Bool.rec (motive := fun _ => Opd) ⟨fun _ _ => .err 48⟩ ⟨fun tm k => valK ((acc2 V t).pr tm) k⟩ (Nat.ble (Nat.succ t) 255)).get tm k = .ok := h
    cases e : Nat.ble (Nat.succ t) 255 with
    | false => rw [e] at h; exact Ans.no h
    | true =>
      rw [e] at h
      have ht : t < 255 := Nat.le_of_ble_eq_true e
      have h : k ((acc2 V t).pr tm) = .ok := h
      rw [acc2_pr (i := t) (n := tm) (Nat.lt_of_lt_of_le ht (by decide))] at h
      show k (absT tm t) = .ok
      unfold absT
      rw [if_pos ht]
      exact h
  | const v => exact h
  | global g =>
    have h : (match gdat g with | some vs => (⟨fun _ k => k (.pro (vs.map cv))⟩ : Opd) | none => ⟨fun _ k => k (.sc (.pointer (some ⟨g, 0, none⟩)))⟩).get tm k = .ok := h
    show k (match gdat g with | some vs => .pro (vs.map cv) | none => .sc (.pointer (some ⟨g, 0, none⟩))) = .ok
    split at h
    · exact h
    · exact h
  | func f => exact h

end Go.Proofs.YtjljgldgkkfckaaDoor.M
