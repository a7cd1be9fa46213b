/- The bridge from runs to a row: a law that yields true, whatever it is given. -/
import Derived.Test.YtabmoalhfggggaaGreatMOrc
import Derived.ReadAgain
import Derived.ChangeReads
import Derived.ChangeOld
import Derived.ChangeBears
import Derived.Below
import Derived.WideShapes
namespace Go.Proofs.YtabmoalhfggggaaGreat.M
open Go Go.RowKit
set_option linter.unusedSimpArgs false
set_option linter.unusedVariables false

theorem trodAll_carry {H : Type} {enc : TypeId × Value → H} {P : Program} {w w' : World} {base : Nat} {spare : Nat → Bool} {held : Bool} : ∀ {ts : List TypeId} {vs : List Value} {ds : List (DataW H)} {ps : List MemPlace},
    DataW.TrodAll enc P w base spare held ts vs ds ps → (∀ p ∈ ps, w.sameAt w' p) → DataW.TrodAll enc P w' base spare held ts vs ds ps
  | [], [], [], _, h, _ => h
  | _ :: _, _ :: _, _ :: _, _, ⟨p, q, ⟨n, h1⟩, h2, e⟩, hs =>
    ⟨p, q, ⟨n, DataW.trod_carry n _ _ _ h1 (fun x hx => hs x (by rw [e]; exact List.mem_append_left _ hx))⟩, trodAll_carry h2 (fun x hx => hs x (by rw [e]; exact List.mem_append_right _ hx)), e⟩

/-- The arguments read behind the call as they read before. -/
theorem args_again {H : Type} {enc : TypeId × Value → H} {P : Program} {W W' : World} {ts : List TypeId} {vs : List Value} {ds : List (DataW H)} {ps : List MemPlace} (hl : laidOutB P = true) (hm : mapsRowed P = true)
    (hz : ((List.range P.types.size).all fun t => match P.underlying t with | some (.slice e) => decide (0 < P.cellsOf e) | _ => true) = true) (hts : ts.all (fun t => decide (t < P.types.size)) = true)
    (h : DataW.TrodAll enc P W 0 (fun _ => true) true ts vs ds ps) (bel : Below W.heap.size W W') : DataW.TrodAll enc P W' 0 (fun b => decide (b < W.heap.size)) true ts vs ds ps :=
  trodAll_carry (h.respare (kids_rows hl hm) (slices_full_of P hz) (fun t ht => of_decide_eq_true (List.all_eq_true.mp hts t ht)) (fun p hp => decide_eq_true (h.lt p hp))) (fun p hp => bel.same (h.lt p hp))

/-- What is called, by content, from outside. -/
theorem calls_true {P : Program} {f : FuncId} {v : Value} {w : World} (h : ∀ ρ : Nat → Value, ρ 0 = v → QCalls ρ P f [.sym 0] (absO hp0) 0 (inL []) (fun o _ _ => o = .ret (.bool true))) :
    Calls P f #[v] w fun e w' => e = .returned (.bool true) ∧ Below w.heap.size w w' := by
  have ho : absO hp0 = fun _ => none := absO_hp0
  have hlive : ∀ (T : Tab) (b : Nat), ¬ LiveO T (absO hp0) b := by
    rintro T b ⟨k, ob, p, h1, _⟩
    rw [ho] at h1
    cases h1
  refine (h (fun _ => v) rfl w (fun _ => False) (fun _ => none) #[v] ⟨fun _ h => h.elim, fun k p hk => by simp at hk, fun k ob hk => (by rw [ho] at hk; cases hk), fun i j x y p q hi => (by rw [ho] at hi; cases hi)⟩ (fun k _ => ⟨rfl, by rw [ho]⟩) rfl (fun i q hq => ?_)).mono ?_
  · match i with
    | 0 => simp at hq; subst hq; exact .pure (.sym 0)
    | i + 1 => simp at hq
  · rintro e w' ⟨out, O, n, T', rfl, hw, hr⟩
    cases e with
    | returned x =>
      refine ⟨by rw [rep_bool hr], hw.keep.os, hw.keep.tape, hw.keep.output, hw.keep.size, fun k hk => hw.keep.block k hk (hlive _ k)⟩
    | panicked c => exact hr.elim
    | outgrown => exact hr.elim

/-! ### columbarykeep.Within -/

def withinM (v n : Int) : Int := if v.tmod n < 0 then IntKind.wrap .i64 (v.tmod n + n) else v.tmod n

theorem withinM_lt (v : Int) (b : Nat) (hb : 0 < b) (hb2 : b < 1000) : ∃ k, k < b ∧ withinM v (.ofNat b) = .ofNat k := by
  have e : (Int.ofNat b) = (b : Int) := rfl
  have h1 : v.tmod (b : Int) < b := Int.tmod_lt_of_pos _ (by omega)
  have h2 : - (b : Int) < v.tmod b := Int.lt_tmod_of_pos _ (by omega)
  unfold withinM
  rw [e]
  by_cases h : v.tmod (b : Int) < 0
  · rw [if_pos h]
    refine ⟨(v.tmod (b : Int) + b).toNat, by omega, ?_⟩
    have : v.tmod (b : Int) + b = Int.ofNat (v.tmod (b : Int) + b).toNat := by show _ = (((v.tmod (b : Int) + b).toNat : Nat) : Int); omega
    rw [this]
    exact wrap_small (by show _ ≤ 9223372036854775807; omega)
  · rw [if_neg h]
    refine ⟨(v.tmod (b : Int)).toNat, by omega, ?_⟩
    show _ = (((v.tmod (b : Int)).toNat : Nat) : Int)
    omega

/-- A call that is handed a value by its name. -/
theorem told_of {ρ : Nat → Value} {P : Program} {f0 : FuncId} {b k : Nat} {n : Int} (hρ : ρ 0 = .int .i64 n)
    (h : ∀ (objs : Objs) (next : Nat) (forb : CellP), QCalls ρ P f0 [.int .i64 n, .int .i64 (.ofNat b)] objs next forb (fun o O m => o = .ret (.int .i64 (.ofNat k)) ∧ O = objs ∧ m = next)) : Told ρ P f0 b k := by
  intro objs next forb w A T vals h1 h2 h3 h4
  refine h objs next forb w A T vals h1 h2 h3 fun i q hq => ?_
  match i with
  | 0 =>
    simp at hq
    subst hq
    have := h4 0 (.sym 0) rfl
    cases this with
    | pure h =>
      generalize hv : vals.getD 0 undef = z at h
      cases h
      rw [hρ]
      exact .pure (.int _ _)
  | 1 => exact h4 1 q (by simpa using hq)
  | i + 2 => simp at hq

end Go.Proofs.YtabmoalhfggggaaGreat.M
