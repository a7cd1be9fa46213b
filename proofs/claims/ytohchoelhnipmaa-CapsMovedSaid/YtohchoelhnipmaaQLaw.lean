/- The bridge from the logic to a row: a law that yields a plain value, whatever it is given. -/
import Derived.Test.YtohchoelhnipmaaQRun
import Derived.ReadAgain
import Derived.ChangeReads
import Derived.ChangeOld
import Derived.ChangeBears
import Derived.Below
import Derived.WideShapes
namespace Go.Proofs.Ytohchoelhnipmaa.Q
open Go Go.RowKit
set_option linter.unusedSimpArgs false
set_option linter.unusedVariables false

theorem trodAll_carry {H : Type} {enc : TypeId × Value → H} {P : Program} {w w' : World} {base : Nat} {spare : Nat → Bool} {held : Bool} : ∀ {ts : List TypeId} {vs : List Value} {ds : List (DataW H)} {ps : List MemPlace},
    DataW.TrodAll enc P w base spare held ts vs ds ps → (∀ p ∈ ps, w.sameAt w' p) → DataW.TrodAll enc P w' base spare held ts vs ds ps
  | [], [], [], _, h, _ => h
  | _ :: _, _ :: _, _ :: _, _, ⟨p, q, ⟨n, h1⟩, h2, e⟩, hs =>
    ⟨p, q, ⟨n, DataW.trod_carry n _ _ _ h1 (fun x hx => hs x (by rw [e]; exact List.mem_append_left _ hx))⟩, trodAll_carry h2 (fun x hx => hs x (by rw [e]; exact List.mem_append_right _ hx)), e⟩

/-- The arguments read behind the call as they read before. -/
theorem args_again {H : Type} {enc : TypeId × Value → H} {P : Program} {W W' : World} {ts : List TypeId} {vs : List Value} {ds : List (DataW H)} {ps : List MemPlace} (hl : laidOutB P = true) (hm : mapsRowed P = true)
    (hz : ((List.range P.types.size).all fun t => match P.underlying t with | some (.slice e) => decide (0 < P.cellsOf e) | _ => true) = true) (hts : ts.all (fun t => decide (t < P.types.size)) = true)
    (h : DataW.TrodAll enc P W 0 (fun _ => true) true ts vs ds ps) (bel : Below W.heap.size W W') : DataW.TrodAll enc P W' 0 (fun b => decide (b < W.heap.size)) true ts vs ds ps :=
  trodAll_carry (h.respare (kids_rows hl hm) (slices_full_of P hz) (fun t ht => of_decide_eq_true (List.all_eq_true.mp hts t ht)) (fun p hp => decide_eq_true (h.lt p hp))) (fun p hp => bel.same (h.lt p hp))

/-- What is called, by content, from outside of the logic. -/
theorem calls_pure {P : Program} {f : FuncId} {args : List V} {v : Value} {vals : Array Value} {w : World} (h : QPure P f args (.sc v)) (hs : vals.size = args.length)
    (hv : ∀ (i : Nat) (q : V), args[i]? = some q → Rep w (fun _ => False) [] q (vals.getD i undef)) : Calls P f vals w fun e w' => e = .returned v ∧ Below w.heap.size w w' := by
  have hlive : ∀ b, ¬ Live (fun _ => False) [] [] b := by
    rintro b (h | ⟨k, ob, s, h1, _⟩)
    · exact h
    · simp at h1
  refine (h.1 w (fun _ => False) [] vals ⟨rfl, fun k ob hk => by simp at hk, fun i j x y b s s' hi => by simp at hi, fun b hb => hb.elim⟩ hs (fun i q hq => (hv i q hq).congr fun b hb => hlive b hb)).mono ?_
  rintro e w' ⟨out, O, T, ⟨rfl, rfl⟩, _, _, h3, h4, _⟩
  cases e with
  | returned x =>
    refine ⟨by rw [rep_sc h3], h4.os, h4.tape, h4.output, h4.size, fun k hk => h4.block k hk ?_⟩
    rintro ⟨j, s, hj, _⟩
    simp at hj
  | panicked c => exact h3.elim
  | outgrown => exact h3.elim

end Go.Proofs.Ytohchoelhnipmaa.Q
