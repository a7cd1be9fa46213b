/- The bridge from runs to a row: a law that yields true, whatever it is given. -/
import Derived.Test.YtjljgldgkkfckaaDoorMOrc
import Derived.ReadAgain
import Derived.ChangeReads
import Derived.ChangeOld
import Derived.ChangeBears
import Derived.Below
import Derived.WideShapes
namespace Go.Proofs.YtjljgldgkkfckaaDoor.M
open Go Go.RowKit
set_option linter.unusedSimpArgs false
set_option linter.unusedVariables false

theorem trodAll_carry {H : Type} {enc : TypeId × Value → H} {P : Program} {w w' : World} {base : Nat} {spare : Nat → Bool} {held : Bool} : ∀ {ts : List TypeId} {vs : List Value} {ds : List (DataW H)} {ps : List MemPlace},
    DataW.TrodAll enc P w base spare held ts vs ds ps → (∀ p ∈ ps, w.sameAt w' p) → DataW.TrodAll enc P w' base spare held ts vs ds ps
  | [], [], [], _, h, _ => h
  | _ :: _, _ :: _, _ :: _, _, ⟨p, q, ⟨n, h1⟩, h2, e⟩, hs =>
    ⟨p, q, ⟨n, DataW.trod_carry n _ _ _ h1 (fun x hx => hs x (by rw [e]; exact List.mem_append_left _ hx))⟩, trodAll_carry h2 (fun x hx => hs x (by rw [e]; exact List.mem_append_right _ hx)), e⟩

/-- The arguments read behind the call as they read before. -/
theorem args_again {H : Type} {enc : TypeId × Value → H} {P : Program} {W W' : World} {ts : List TypeId} {vs : List Value} {ds : List (DataW H)} {ps : List MemPlace} (hl : laidOutB P = true) (hm : mapsRowed P = true)
    (hz : ((List.range P.types.size).all fun t => match P.underlying t with | some (.slice e) => decide (0 < P.cellsOf e) | _ => true) = true) (hts : ts.all (fun t => decide (t < P.types.size)) = true)
    (h : DataW.TrodAll enc P W 0 (fun _ => true) true ts vs ds ps) (bel : Below W.heap.size W W') : DataW.TrodAll enc P W' 0 (fun b => decide (b < W.heap.size)) true ts vs ds ps :=
  trodAll_carry (h.respare (kids_rows hl hm) (slices_full_of P hz) (fun t ht => of_decide_eq_true (List.all_eq_true.mp hts t ht)) (fun p hp => decide_eq_true (h.lt p hp))) (fun p hp => bel.same (h.lt p hp))

/-- What is called, by content, from outside: arguments that lie where nobody writes. -/
theorem calls_ret {ρ : Nat → Value} {P : Program} {f : FuncId} {args : List V} {vals : Array Value} {w : World} (hg : Globs w fun _ => False) (hs : vals.size = args.length)
    (hargs : ∀ (i : Nat) (q : V), args[i]? = some q → RepP ρ w (fun _ => False) q (vals.getD i undef))
    (h : QCalls ρ P f args (fun _ => none) 0 (fun _ _ _ => False) (fun o _ _ => o = .ret (.bool true))) :
    Calls P f vals w fun e w' => e = .returned (.bool true) ∧ Below w.heap.size w w' := by
  have hlive : ∀ (b : Nat), ¬ Live (fun _ => False) (fun _ => none) (fun _ => none) b := by
    rintro b (h | ⟨k, ob, p, h1, _⟩)
    · exact h
    · cases h1
  refine (h w (fun _ => False) (fun _ => none) vals ⟨fun _ h => h.elim, fun k p hk => by simp at hk, fun k ob hk => (by cases hk), fun i j x y p q hi => (by cases hi), hg.congr fun b hb => hlive b hb⟩ (fun k _ => ⟨rfl, rfl⟩) hs (fun i q hq => .pure ((hargs i q hq).later (Nat.le_refl _) (fun _ _ _ => rfl) fun b _ _ => hlive b))).mono ?_
  rintro e w' ⟨out, O, n, T', rfl, hw, hr⟩
  cases e with
  | returned x =>
    refine ⟨by rw [rep_bool hr], hw.keep.os, hw.keep.tape, hw.keep.output, hw.keep.size, fun k hk => hw.keep.block k hk fun ⟨_, _, _, h1, _⟩ => by cases h1⟩
  | panicked c => exact hr.elim
  | outgrown => exact hr.elim

theorem inL_nil : inL [] = fun _ _ _ => False := by
  funext k r c
  apply propext
  constructor
  · rintro ⟨e, he, _⟩
    cases he
  · exact False.elim

/-- The same, of one number by its name. -/
theorem calls_true {P : Program} {f : FuncId} {v : Value} {w : World} (hg : Globs w fun _ => False) (h : ∀ ρ : Nat → Value, ρ 0 = v → QCalls ρ P f [.sym 0] (absO hp0) 0 (inL []) (fun o _ _ => o = .ret (.bool true))) :
    Calls P f #[v] w fun e w' => e = .returned (.bool true) ∧ Below w.heap.size w w' := by
  have h0 := h (fun _ => v) rfl
  rw [absO_hp0, inL_nil] at h0
  refine calls_ret hg rfl (fun i q hq => ?_) h0
  match i with
  | 0 => simp at hq; subst hq; exact .sym 0
  | i + 1 => simp at hq

/-! ### Rules for a walk by hand -/

section
variable {ρ : Nat → Value} {P : Program} {σ : St} {K : Ex → St → Prop}

theorem q_cond2 {c : Operand} {x y : Code} {t : Bool} (hc : evalV σ c = .bool t) (h1 : t = true → QC ρ P x σ K) (h2 : t = false → QC ρ P y σ K) : QC ρ P (.cond c x y) σ K := by
  refine q_cond hc ?_
  cases t with
  | true => exact h1 rfl
  | false => exact h2 rfl

theorem qs_quiet {ops : Array Oper} {o : Oper} {rest : List Oper} {v : V} (hw : wantV ops σ o = some true) (hq : QQ ρ P σ (fun _ _ _ => False) o v) (hd : dstOK o σ) (h : QS ρ P ops K rest (σ.put o.dst v)) : QS ρ P ops K (o :: rest) σ :=
  qs_by hw (qo_quiet hq hd h)

theorem fin_tmp {fn : Func} {R : Out → Objs → Nat → Prop} {t : Nat} {v : V} (hr : fn.results = #[.tmp t]) (hd : σ.defs = []) (hv : σ.tmps t = v) (h : R (.ret v) σ.objs σ.next) : QFin ρ P fn R σ.defs none σ := by
  rw [hd]
  refine ⟨resV [σ.tmps t], res_ok (by rw [hr]; rfl) (fun i rv q h1 h2 => ?_), ?_⟩
  · rw [hr] at h1
    match i with
    | 0 =>
      simp at h1 h2
      subst h1 h2
      exact .tmp t
    | i + 1 => simp at h1
  · show R (.ret (σ.tmps t)) σ.objs σ.next
    rw [hv]; exact h

end

/-! ### columbarykeep.Within -/

def withinM (v n : Int) : Int := if v.tmod n < 0 then IntKind.wrap .i64 (v.tmod n + n) else v.tmod n

theorem withinM_lt (v : Int) (b : Nat) (hb : 0 < b) (hb2 : b < 1000) : ∃ k, k < b ∧ withinM v (.ofNat b) = .ofNat k := by
  have e : (Int.ofNat b) = (b : Int) := rfl
  have h1 : v.tmod (b : Int) < b := Int.tmod_lt_of_pos _ (by omega)
  have h2 : - (b : Int) < v.tmod b := Int.lt_tmod_of_pos _ (by omega)
  unfold withinM
  rw [e]
  by_cases h : v.tmod (b : Int) < 0
  · rw [if_pos h]
    refine ⟨(v.tmod (b : Int) + b).toNat, by omega, ?_⟩
    have : v.tmod (b : Int) + b = Int.ofNat (v.tmod (b : Int) + b).toNat := by show _ = (((v.tmod (b : Int) + b).toNat : Nat) : Int); omega
    rw [this]
    exact wrap_small (by show _ ≤ 9223372036854775807; omega)
  · rw [if_neg h]
    refine ⟨(v.tmod (b : Int)).toNat, by omega, ?_⟩
    show _ = (((v.tmod (b : Int)).toNat : Nat) : Int)
    omega

/-- A call that is handed a value by its name. -/
theorem told_of {ρ : Nat → Value} {P : Program} {f0 : FuncId} {b k : Nat} {n : Int} (hρ : ρ 0 = .int .i64 n)
    (h : ∀ (objs : Objs) (next : Nat) (forb : CellP), QCalls ρ P f0 [.int .i64 n, .int .i64 (.ofNat b)] objs next forb (fun o O m => o = .ret (.int .i64 (.ofNat k)) ∧ O = objs ∧ m = next)) : Told ρ P f0 b k := by
  intro objs next forb w A T vals h1 h2 h3 h4
  refine h objs next forb w A T vals h1 h2 h3 fun i q hq => ?_
  match i with
  | 0 =>
    simp at hq
    subst hq
    have := h4 0 (.sym 0) rfl
    cases this with
    | pure h =>
      generalize hv : vals.getD 0 undef = z at h
      cases h
      rw [hρ]
      exact .pure (.int _ _)
  | 1 => exact h4 1 q (by simpa using hq)
  | i + 2 => simp at hq

end Go.Proofs.YtjljgldgkkfckaaDoor.M
