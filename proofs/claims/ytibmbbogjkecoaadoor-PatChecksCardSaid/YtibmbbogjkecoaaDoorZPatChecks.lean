/- PatChecks: the row and its card. -/
import Derived.Test.YtibmbbogjkecoaaDoorCards
import Derived.Test.YtibmbbogjkecoaaDoorTie
import Derived.Test.YtibmbbogjkecoaaDoorRows
import Derived.Test.YtibmbbogjkecoaaDoorX5PatChecks
import Derived.LaidSub
import Derived.WalkKit
import Derived.ProofKit
import Derived.OpenShut
import Derived.ChangeOld
import Derived.ChangeSlices
import Derived.Below
import Derived.SizedLaws
import Derived.LaidMore
import Derived.Stop.Joined
namespace Go.Proofs.YtibmbbogjkecoaaDoor.patChecks
open Go Go.ChangeShapes Go.WideShapes Go.ChangeAt Go.RowKit Go.Proofs.YtibmbbogjkecoaaDoor.M
set_option linter.unusedVariables false
set_option linter.unusedSimpArgs false

/-- What a variable of bytes holds, cell by cell. -/
theorem laid_bytes {P : Program} {w : World} {fuel t e n : Nat} {cs : List Value} {l : List Nat} {p : List MemPlace} (ht : P.underlying t = some (.array n e)) (he : P.underlying e = some (.int .u8)) (h1 : P.cellsOf e = 1) (hn : P.cellsOf t = n) (hl : l.length = n)
    (h : DataW.trod (fun _ => ()) P w 0 (fun _ => true) false fuel t cs = some (.agg (l.map fun c => .lit (.int .u8 (.ofNat c))), p)) : ∀ (i : Nat) (c : Nat), l[i]? = some c → cs[i]? = some (.int .u8 (.ofNat c)) := by
  obtain ⟨xs, m, rfl, hx, hlen, hxl, hat⟩ := DataW.trod_array ht h
  intro i c hi
  have hlt : i < n := by rw [← hl]; exact (List.getElem?_eq_some_iff.mp hi).1
  have hc := hat i hlt
  rw [h1, Nat.mul_one] at hc
  injection hx with hx1 hx2
  injection hx1 with hx1
  have hxi : (xs.map (·.1))[i]? = some (.lit (.int .u8 (.ofNat c))) := by rw [← hx1, List.getElem?_map, hi]; rfl
  rw [List.getElem?_map] at hxi
  obtain ⟨y, hy1, hy2⟩ := Option.map_eq_some_iff.mp hxi
  rw [hy1] at hc
  obtain ⟨k, g1, g2, g3⟩ := DataW.trod_int he hc
  rw [g2] at hy2
  simp only [DataW.lit.injEq, Lit.int.injEq, true_and] at hy2
  rw [← hy2]
  have h2 : ((cs.drop i).take 1)[0]? = some (Value.int .u8 k) := by rw [g1]; rfl
  rw [List.getElem?_take, if_pos (by omega), List.getElem?_drop] at h2
  simpa using h2

def spaceN : List Nat := [0, 0, 0, 0, 0, 0, 0, 0, 0, 1, 1, 1, 1, 1, 0, 0, 0, 0, 0, 0, 0, 0, 0, 0, 0, 0, 0, 0, 0, 0, 0, 0, 1, 0, 0, 0, 0, 0, 0, 0, 0, 0, 0, 0, 0, 0, 0, 0, 0, 0, 0, 0, 0, 0, 0, 0, 0, 0, 0, 0, 0, 0, 0, 0, 0, 0, 0, 0, 0, 0, 0, 0, 0, 0, 0, 0, 0, 0, 0, 0, 0, 0, 0, 0, 0, 0, 0, 0, 0, 0, 0, 0, 0, 0, 0, 0, 0, 0, 0, 0, 0, 0, 0, 0, 0, 0, 0, 0, 0, 0, 0, 0, 0, 0, 0, 0, 0, 0, 0, 0, 0, 0, 0, 0, 0, 0, 0, 0, 0, 0, 0, 0, 0, 0, 0, 0, 0, 0, 0, 0, 0, 0, 0, 0, 0, 0, 0, 0, 0, 0, 0, 0, 0, 0, 0, 0, 0, 0, 0, 0, 0, 0, 0, 0, 0, 0, 0, 0, 0, 0, 0, 0, 0, 0, 0, 0, 0, 0, 0, 0, 0, 0, 0, 0, 0, 0, 0, 0, 0, 0, 0, 0, 0, 0, 0, 0, 0, 0, 0, 0, 0, 0, 0, 0, 0, 0, 0, 0, 0, 0, 0, 0, 0, 0, 0, 0, 0, 0, 0, 0, 0, 0, 0, 0, 0, 0, 0, 0, 0, 0, 0, 0, 0, 0, 0, 0, 0, 0, 0, 0, 0, 0, 0, 0, 0, 0, 0, 0, 0, 0, 0, 0, 0, 0, 0, 0]
theorem space_globs (W : World) (h : laidMetH Tryd.prog Rows.patChecksRow.laid W) : Globs W fun _ => False := by
  have h1 := h.filter (fun x => x.1 == "strings.asciiSpace")
  have e1 : (Rows.patChecksRow.laid.filter fun x => x.1 == "strings.asciiSpace") = [("strings.asciiSpace", Rows.laid_strings_asciiSpace)] := by kernel_rfl
  rw [e1] at h1
  obtain ⟨h2, _⟩ := laidMetH_iff.1 h1
  have e2 : ([("strings.asciiSpace", (Rows.laid_strings_asciiSpace : DataW Unit))].filter fun x => x.2.handleName?.isNone) = [("strings.asciiSpace", Rows.laid_strings_asciiSpace)] := by kernel_rfl
  rw [e2] at h2
  obtain ⟨ps, ⟨g, t, cs, fuel, p, q, g1, g2, g3, g4, _, _⟩, _, _⟩ := h2
  have e3 : Tryd.prog.globalNamed "strings.asciiSpace" = some 3 := by kernel_rfl
  rw [e3] at g1
  cases g1
  have e4 : (Tryd.prog.globals[3]?).map (·.type) = some 115 := by kernel_rfl
  rw [e4] at g2
  cases g2
  unfold World.var? at g3
  rw [e3] at g3
  simp only [Option.bind_some] at g3
  have hl : (Rows.laid_strings_asciiSpace : DataW Unit) = .agg (spaceN.map fun c => .lit (.int .u8 (.ofNat c))) := by kernel_rfl
  rw [hl] at g4
  have hcs := laid_bytes (n := 256) (e := 5) (by kernel_rfl) (by kernel_rfl) (by kernel_rfl) (by kernel_rfl) (by kernel_rfl) g4
  intro g vs hg
  unfold gdat at hg
  split at hg
  case h_2 => cases hg
  case h_1 hgn =>
    have hgn := Nat.eq_of_beq_eq_true hgn
    subst hgn
    cases hg
    split at g3
    · rename_i cs' t' fr hh
      cases g3
      refine ⟨fun h => h, ?_, fun i v hi => ?_⟩
      · rcases Nat.lt_or_ge 3 W.heap.size with g | g
        · exact g
        · rw [Array.getElem?_eq_none g] at hh; cases hh
      · have e5 : spaceL = spaceN.map fun c => Value.int .u8 (.ofNat c) := by kernel_rfl
        rw [e5, List.getElem?_map] at hi
        obtain ⟨c, hc, rfl⟩ := Option.map_eq_some_iff.mp hi
        refine ⟨rfl, ?_⟩
        unfold World.cell?
        simp only [hh]
        have := hcs i c hc
        rw [Array.getElem?_toList] at this
        simpa using this
    · cases g3

theorem own : ownKnob Tryd.prog.godebug = none := by kernel_rfl
theorem door_met (os : Os) (args : Array Value) : laidMetH Tryd.prog Rows.patChecksRow.laid ((World.doorLaid Tryd.prog 114 os).forCall (fun _ _ => 0) ⟨#[], args, []⟩).memory :=
  laidMetH_of_parts3 (fuel := 8) (laidMet_of_run' 8 (by kernel_rfl) (by kernel_rfl)) (by kernel_rfl) (by kernel_rfl)

set_option maxRecDepth 100000 in
theorem lifted (os : Os) (started : os.Started) (H : Type) (enc : TypeId × Value → H) :
    ReturnsInHanded {} Tryd.checked os 4 .any (fun w args => (Rows.patChecksSpec.pre enc Tryd.prog Tryd.f4 [] false w args ∧ laidMetH Tryd.prog Rows.patChecksRow.laid w) ∧ sizedMet enc Tryd.prog Tryd.f4 (OpenSpec.ofChange Rows.patChecksSpec) false w args)
      (Rows.patChecksSpec.post enc Tryd.prog Tryd.f4 false true false false) := by
  refine returnsInHanded_of_change_and (C := Tryd.checked) (X := fun w _ => laidMetH Tryd.prog Rows.patChecksRow.laid w) (fun _ _ _ hh h => h.of_heap hh) own started (by kernel_rfl) Tryd.func4
    (ChangeSpec.witness_shaped (enc := enc) (C := Tryd.checked) (os := os) (X := fun w _ => laidMetH Tryd.prog Rows.patChecksRow.laid w) false (World.doorLaid Tryd.prog 114 os) #[.slice none 0 0, .slice none 0 0, .int .i64 0, .int .i64 0] 8 rfl (World.shaped_of_RefB (by kernel_rfl) (by kernel_rfl)) (by kernel_rfl) (by kernel_rfl) (by kernel_rfl) (door_met os _)) ?_
  intro W base args ds gs before hval0 hW _ hsz hlaid _
  have hval : ∀ (j : Nat) t v, Tryd.f4.params[j]? = some t → args[j]? = some v → Value.okWide Tryd.prog W .any base t v := hval0
  have hW' := hW
  obtain ⟨p, q, hA0, hV, rfl, hfz, hnd⟩ := hW
  have hA : DataW.TrodAll enc Tryd.prog W 0 (fun _ => true) true Tryd.f4.params.toList args.toList ds p := hA0
  have hA1 := hA
  rw [Tryd.params4] at hA hval hsz
  obtain ⟨v0, vs0, d0, ds0, p0, q0, hargs, rfl, rfl, h0, r0⟩ := trodAll_cons hA
  obtain ⟨v1, vs1, d1, ds1, p1, q1, rfl, rfl, rfl, h1, r1⟩ := trodAll_cons r0
  obtain ⟨v2, vs2, d2, ds2, p2, q2, rfl, rfl, rfl, h2, r2⟩ := trodAll_cons r1
  obtain ⟨v3, vs3, d3, ds3, p3, q3, rfl, rfl, rfl, h3, r3⟩ := trodAll_cons r2
  obtain ⟨rfl, rfl, rfl⟩ := trodAll_nil r3
  obtain rfl : args = #[v0, v1, v2, v3] := by cases args; simp_all
  obtain ⟨rfl, rfl⟩ := trodVars_none hV
  have hw0 : ∀ l r, d0 = .slice l r → (l.length + r.length) * 48 ≤ reachBytes := fun l r e => by
    subst e
    have h := sized_slice hsz (j := 0) (t := 32) rfl rfl Tryd.underlying32
    have e8 : Tryd.checked.prog.bytesOf 49 = 48 := by kernel_rfl
    rwa [e8] at h
  obtain ⟨l0, hl0, hr0⟩ := raw_arg (hval 0 32 v0 rfl rfl) h0 hw0
  have hw1 : ∀ l r, d1 = .slice l r → (l.length + r.length) * 8 ≤ reachBytes := fun l r e => by
    subst e
    have h := sized_slice hsz (j := 1) (t := 33) rfl rfl Tryd.underlying33
    have e8 : Tryd.checked.prog.bytesOf 3 = 8 := by kernel_rfl
    rwa [e8] at h
  obtain ⟨l1, hl1, hr1⟩ := ints_argN (hval 1 33 v1 rfl rfl) h1 hw1
  obtain ⟨n2, rfl⟩ := okWide_int Tryd.underlying3 (hval 2 3 v2 rfl rfl)
  obtain ⟨n3, rfl⟩ := okWide_int Tryd.underlying3 (hval 3 3 v3 rfl rfl)
  have hg := space_globs W hlaid
  refine (says_callsN (hg) rfl (fun ρ i q hq => by
    match i with
    | 0 => simp at hq; subst hq; exact hr0 ρ
    | 1 => simp at hq; subst hq; exact hr1 ρ
    | 2 => simp at hq; subst hq; exact .int _ _
    | 3 => simp at hq; subst hq; exact .int _ _
    | i + 4 => simp at hq) (fun ρ => patChecks_args l0 l1 n2 n3 hl0 hl1)).mono fun e W' ⟨he, bel⟩ => ?_
  subst he
  exact ⟨_, rfl, _, _, _, [], _, [], hW', trodAll_mk1 (shut_bool Tryd.underlying4 _), args_again (by kernel_rfl) (by kernel_rfl) (by kernel_rfl) (by kernel_rfl) hA1 bel, rfl, bel.frame _, fun h => by cases h⟩
theorem over : Rows.patChecksRow.holds Tryd.pinned (OpenSpec.ofChange Rows.patChecksSpec) :=
  OpenClaim.holds_of_wide 4 Tryd.f4 rfl rfl rfl rfl rfl rfl rfl ⟨rfl, rfl, rfl, rfl, rfl⟩ rfl rfl rfl rfl rfl (by kernel_rfl) Tryd.func4 (by kernel_rfl)
    (of_decide_eq_true (by kernel_rfl)) (by unfold Func.isWrapper; first | (rw [if_pos (by decide +kernel)]; kernel_rfl) | (rw [if_neg (by decide +kernel)]; exact ⟨rfl, rfl⟩))
    (fun os started H enc _ => lifted os started H enc)
theorem proved : Rows.PatChecksSaid := over
end Go.Proofs.YtibmbbogjkecoaaDoor.patChecks
namespace Go.Proofs.YtibmbbogjkecoaaDoor
/-- The tied card, for the claim. -/
theorem patChecks_card_holds : Rows.PatChecksCardSaid :=
  Claim7.holds_tied_plain_at .later [] [.data, .data, .data, .sentinel, .sentinel, .listed, .data] true (true, "53be4917f9143fd4801e71692231363178774f8052e7e8fbf8366722509bbc49") true
    patChecks.proved (fun _ h => by cases h) (by kernel_rfl) (fun _ h => by cases h) patChecks_row_tie rfl ⟨rfl, rfl⟩ (by kernel_rfl) rfl
    (fun f fn hf hfn => by
      obtain rfl : f = 4 := Option.some.inj ((show Tryd.prog.funcNamed "columbary/columbarylaw05.PatChecks" = some 4 by kernel_rfl).symm.trans hf) |>.symm
      obtain rfl : fn = Tryd.f4 := (Option.some.inj (Tryd.func4.symm.trans hfn)).symm
      exact ⟨by kernel_rfl, fun j t ht => by
        rw [Tryd.params4] at ht
        have hm : t ∈ [32, 33, 3, 3] := by simpa using Array.mem_of_getElem? ht
        have hall : ([32, 33, 3, 3].all fun u => !Tryd.prog.wantsStandIn u) = true := by kernel_rfl
        exact (show Tryd.prog.wantsStandIn t = false by simpa using List.all_eq_true.1 hall t hm)⟩)
    (by kernel_rfl)
end Go.Proofs.YtibmbbogjkecoaaDoor
