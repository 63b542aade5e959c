/- OramPlays: blocks are as they were written last, whatever draws there are; each call reads one way and writes it, and nothing else; no draw is shown twice; each block is where it may be, just once. Conditions: none; for every key, tape, number of IDs, leaves and room, and every script. -/
import Derived.Test.YtffenelcgjdbiaaGreatDoorKOramPlays44
import Derived.Test.YtffenelcgjdbiaaGreatDoorCards
import Derived.Test.YtffenelcgjdbiaaGreatDoorTie
set_option linter.unusedVariables false
set_option linter.unusedSimpArgs false
namespace Go.Proofs.YtffenelcgjdbiaaGreatDoor
open Go Go.Sim Go.ChangeShapes Go.WideShapes Go.ChangeAt Go.WideMaps Go.WideElems Go.RowKit
set_option maxRecDepth 100000
theorem elem_stp {H : Type} {enc : TypeId × Value → H} {W : World} (n : Nat) (ds : List Value) (y : DataW H × List MemPlace) (h : DataW.trod enc Tryz.prog W 0 (fun _ => true) true n 45 ds = some y) :
    ∃ el, (∃ x : Stp, el = x.v) ∧ Cels2 W 3 el ds := by
  obtain ⟨xs, m, _, _, hlen, hxs, hf⟩ := DataW.trod_struct Tryz.underlying45 h
  have c45 : Tryz.prog.cellsOf 45 = 3 := by kernel_rfl
  have c3 : Tryz.prog.cellsOf 3 = 1 := by kernel_rfl
  have c31 : Tryz.prog.cellsOf 31 = 1 := by kernel_rfl
  rw [c45] at hlen
  have hxs : xs.length = 3 := hxs
  obtain ⟨d0, d1, d2, rfl⟩ : ∃ d0 d1 d2, ds = [d0, d1, d2] := by
    match ds, hlen with
    | [a, b, c], _ => exact ⟨a, b, c, rfl⟩
  obtain ⟨x0, x1, x2, rfl⟩ : ∃ x0 x1 x2, xs = [x0, x1, x2] := by
    match xs, hxs with
    | [a, b, c], _ => exact ⟨a, b, c, rfl⟩
  have f0 : DataW.trod enc Tryz.prog W 0 (fun _ => true) true m 3 (([d0, d1, d2].drop 0).take (Tryz.prog.cellsOf 3)) = some x0 := hf 0 _ rfl
  have f1 : DataW.trod enc Tryz.prog W 0 (fun _ => true) true m 3 (([d0, d1, d2].drop 1).take (Tryz.prog.cellsOf 3)) = some x1 := hf 1 _ rfl
  have f2 : DataW.trod enc Tryz.prog W 0 (fun _ => true) true m 31 (([d0, d1, d2].drop 2).take (Tryz.prog.cellsOf 31)) = some x2 := hf 2 _ rfl
  rw [c3] at f0 f1
  rw [c31] at f2
  obtain ⟨k, e0, _, _⟩ := DataW.trod_int Tryz.underlying3 f0
  obtain ⟨i, e1, _, _⟩ := DataW.trod_int Tryz.underlying3 f1
  obtain ⟨b, v, e2, hrel⟩ := vrel_bytes Tryz.underlying31 Tryz.underlying5 (by kernel_rfl) f2
  simp at e0 e1 e2
  subst e0 e1 e2
  refine ⟨_, ⟨⟨k, i, b⟩, rfl⟩, rfl, fun u hu => ?_, rfl, fun j u c hu hc => ?_⟩
  · simp [Stp.v, V.cells] at hu
    rcases hu with rfl | rfl | rfl <;> rfl
  · match j, hu, hc with
    | 0, hu, hc => cases hu; cases hc; exact .int _ _
    | 1, hu, hc => cases hu; cases hc; exact .int _ _
    | 2, hu, hc => cases hu; cases hc; exact hrel
theorem stps_of {els : List V} (h : ∀ el ∈ els, ∃ x : Stp, el = x.v) : ∃ l : List Stp, els = Stps l := by
  induction els with
  | nil => exact ⟨[], rfl⟩
  | cons a r ih =>
    obtain ⟨x, rfl⟩ := h a (List.mem_cons_self ..)
    obtain ⟨l, rfl⟩ := ih fun el he => h el (List.mem_cons_of_mem _ he)
    exact ⟨x :: l, rfl⟩
theorem oramPlays_lifted (os : Go.Os) (started : os.Started) (H : Type) (enc : TypeId × Value → H) :
    ReturnsInHanded {} Tryz.checked os 4 .any (fun w args => (Rows.oramPlaysSpec.pre enc Tryz.prog Tryz.f4 [] false w args ∧ laidMetH Tryz.prog laidL w) ∧ sizedMet enc Tryz.prog Tryz.f4 (OpenSpec.ofChange Rows.oramPlaysSpec) false w args)
      (Rows.oramPlaysSpec.post enc Tryz.prog Tryz.f4 false true false false) := by
  refine returnsInHanded_of_change_and (C := Tryz.checked) (X := fun w _ => laidMetH Tryz.prog laidL w) (fun _ _ _ hh h => h.of_heap hh) own started (by kernel_rfl) Tryz.func4
    (ChangeSpec.witness_shaped (enc := enc) (C := Tryz.checked) (os := os) (X := fun w _ => laidMetH Tryz.prog laidL w) false (World.doorLaid Tryz.prog 4000 os) #[.agg (Array.replicate 32 (.int .u8 0)), .slice none 0 0, .int .i64 0, .int .i64 0, .int .i64 0, .slice none 0 0] 8 rfl (World.shaped_of_RefB (by kernel_rfl) (by kernel_rfl)) (by kernel_rfl) (by kernel_rfl) (by kernel_rfl) (door_met os _)) ?_
  intro W base args ds gs before hval0 hW _ _ hL _
  have hval : ∀ (j : Nat) t v, Tryz.f4.params[j]? = some t → args[j]? = some v → Value.okWide Tryz.prog W .any base t v := hval0
  have hW' := hW
  obtain ⟨p, q, hA0, hV, rfl, hfz, hnd⟩ := hW
  have hA : DataW.TrodAll enc Tryz.prog W 0 (fun _ => true) true Tryz.f4.params.toList args.toList ds p := hA0
  rw [Tryz.params4] at hA hval
  obtain ⟨v0, vs0, d0, ds0, p0, q0, hargs, rfl, rfl, h0, r0⟩ := trodAll_cons hA
  obtain ⟨v1, vs1, d1, ds1, p1, q1, rfl, rfl, rfl, h1, r1⟩ := trodAll_cons r0
  obtain ⟨v2, vs2, d2, ds2, p2, q2, rfl, rfl, rfl, h2, r2⟩ := trodAll_cons r1
  obtain ⟨v3, vs3, d3, ds3, p3, q3, rfl, rfl, rfl, h3, r3⟩ := trodAll_cons r2
  obtain ⟨v4, vs4, d4, ds4, p4, q4, rfl, rfl, rfl, h4, r4⟩ := trodAll_cons r3
  obtain ⟨v5, vs5, d5, ds5, p5, q5, rfl, rfl, rfl, h5, r5⟩ := trodAll_cons r4
  obtain ⟨rfl, rfl, rfl⟩ := trodAll_nil r5
  obtain rfl : args = #[v0, v1, v2, v3, v4, v5] := by cases args; simp_all
  obtain ⟨rfl, rfl⟩ := trodVars_none hV
  have k0 := h0
  have k1 := h1
  have k5 := h5
  have lt0 : ∀ x ∈ p0, x.block < W.heap.size := by obtain ⟨m, hm⟩ := k0; exact DataW.trod_lt m _ _ _ hm
  have lt1 : ∀ x ∈ p1, x.block < W.heap.size := by obtain ⟨m, hm⟩ := k1; exact DataW.trod_lt m _ _ _ hm
  have lt5 : ∀ x ∈ p5, x.block < W.heap.size := by obtain ⟨m, hm⟩ := k5; exact DataW.trod_lt m _ _ _ hm
  obtain ⟨a2, rfl, rfl, rfl, w2⟩ := open_int Tryz.underlying3 (hval 2 3 v2 rfl rfl) h2
  obtain ⟨a3, rfl, rfl, rfl, w3⟩ := open_int Tryz.underlying3 (hval 3 3 v3 rfl rfl) h3
  obtain ⟨a4, rfl, rfl, rfl, w4⟩ := open_int Tryz.underlying3 (hval 4 3 v4 rfl rfl) h4
  obtain ⟨cs0, rfl⟩ : ∃ cs, v0 = .agg cs := by
    have := hval 0 29 v0 rfl rfl
    simp only [Value.okWide, Tryz.underlying29] at this
    obtain ⟨cs, e, _⟩ := this
    exact ⟨cs, e⟩
  obtain ⟨b1, len1, cap1, rfl⟩ := okWide_slice Tryz.underlying22 (hval 1 22 v1 rfl rfl)
  obtain ⟨b5, len5, cap5, rfl⟩ := okWide_slice Tryz.underlying38 (hval 5 38 v5 rfl rfl)
  obtain ⟨fuel0, hf0⟩ := h0
  obtain ⟨fuel1, hf1⟩ := h1
  obtain ⟨fuel5, hf5⟩ := h5
  obtain ⟨key, hk, hrel0⟩ := vrel_arr (cs := cs0) Tryz.underlying29 Tryz.underlying5 (by kernel_rfl) (by kernel_rfl) (by simpa [Value.cells] using hf0)
  obtain ⟨l, u1, hu1, hl, hrel1⟩ := vrel_u32 Tryz.underlying22 Tryz.underlying57 (by kernel_rfl) hf1
  obtain rfl : u1 = .slice b1 len1 cap1 := by simpa [Value.cells] using hu1.symm
  obtain ⟨els, u5, hu5, hq5, hrel5⟩ := vrel_slice Tryz.underlying38 (sz := 3) (by kernel_rfl) (by decide) _ elem_stp hf5
  obtain rfl : u5 = .slice b5 len5 cap5 := by simpa [Value.cells] using hu5.symm
  obtain ⟨ls, rfl⟩ := stps_of hq5
  have hT := tab_met t64 Tryz.underlying149 Tryz.underlying5 (by kernel_rfl) hL
  have hLR : LR (VRel (gW W)) [.agg (By key), .lst 1 (U32s l) .unk, .int .i64 a2, .int .i64 a3, .int .i64 a4, .lst 3 (Stps ls) .unk] (#[.agg cs0, .slice b1 len1 cap1, .int .i64 a2, .int .i64 a3, .int .i64 a4, .slice b5 len5 cap5] : Array Value).toList := by
    refine ⟨rfl, fun i v c hv hc => ?_⟩
    match i, hv, hc with
    | 0, hv, hc => cases hv; cases hc; exact hrel0
    | 1, hv, hc => cases hv; cases hc; exact hrel1
    | 2, hv, hc => cases hv; cases hc; exact .int _ _
    | 3, hv, hc => cases hv; cases hc; exact .int _ _
    | 4, hv, hc => cases hv; cases hc; exact .int _ _
    | 5, hv, hc => cases hv; cases hc; exact hrel5
  clear hA0 hval0
  refine (rcall_row hT (OramPlays_spec key hk l hl .unk a2 a3 a4 ls .unk st0) hLR).mono fun e W' ⟨he, bel⟩ => ?_
  subst he
  exact ⟨_, rfl, _, _, _, [], _, [], hW', trodAll_mk1 (shut_bool Tryz.underlying4 _), (trodAll_cons_mk (Below.trod laidOut (by kernel_rfl) (of_decide_eq_true (by kernel_rfl)) k0 bel lt0) (trodAll_cons_mk (Below.trod laidOut (by kernel_rfl) (of_decide_eq_true (by kernel_rfl)) k1 bel lt1) (trodAll_cons_mk (shut_int Tryz.underlying3 w2) (trodAll_cons_mk (shut_int Tryz.underlying3 w3) (trodAll_cons_mk (shut_int Tryz.underlying3 w4) (trodAll_cons_mk (Below.trod laidOut (by kernel_rfl) (of_decide_eq_true (by kernel_rfl)) k5 bel lt5) trodAll_mk0)))))), rfl, bel.frame _, fun h => by cases h⟩
theorem oramPlays_said : Rows.OramPlaysSaid :=
  OpenClaim.holds_of_wide 4 Tryz.f4 rfl rfl rfl rfl rfl rfl rfl ⟨rfl, rfl, rfl, rfl, rfl⟩ rfl rfl rfl rfl rfl (by kernel_rfl) Tryz.func4 (by kernel_rfl)
    (of_decide_eq_true (by kernel_rfl)) (by unfold Func.isWrapper; first | (rw [if_pos (by decide +kernel)]; kernel_rfl) | (rw [if_neg (by decide +kernel)]; exact ⟨rfl, rfl⟩))
    (fun os started H enc _ => oramPlays_lifted os started H enc)
theorem oramPlays_holds : Rows.OramPlaysCardSaid :=
  Claim7.holds_tied_plain_at .later [] [.data, .data] true (true, "e420a72ea1d52da044268097617a8b29d5420b1d6157f25e2f90df506abe811f") false
    oramPlays_said (fun _ h => by cases h) (by kernel_rfl) (fun _ h => by cases h) oramPlays_row_tie rfl ⟨rfl, rfl⟩ (by kernel_rfl) rfl
    (fun f fn hf hfn => by
      obtain rfl : f = 4 := Option.some.inj ((show Tryz.prog.funcNamed "dumbwaiter/dumbwaiterlaw17.OramPlays" = some 4 by kernel_rfl).symm.trans hf) |>.symm
      obtain rfl : fn = Tryz.f4 := (Option.some.inj (Tryz.func4.symm.trans hfn)).symm
      exact ⟨by kernel_rfl, fun j t ht => by
        rw [Tryz.params4] at ht
        have hm : t ∈ [29, 22, 3, 3, 3, 38] := by simpa using Array.mem_of_getElem? ht
        have hall : ([29, 22, 3, 3, 3, 38].all fun u => !Tryz.prog.wantsStandIn u) = true := by kernel_rfl
        exact (show Tryz.prog.wantsStandIn t = false by simpa using List.all_eq_true.1 hall t hm)⟩)
    (by kernel_rfl)
#print axioms oramPlays_holds
end Go.Proofs.YtffenelcgjdbiaaGreatDoor
