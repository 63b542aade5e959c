/- OramDrops: what is dropped is there no more, and may be written again; others are as they were; dropped all, nothing is left anywhere. Conditions: none; for every tape, every number of IDs, every choice of what is dropped. -/
import Derived.Test.YtffenelcgjdbiaaGreatDoorKOramDrops44
import Derived.Test.YtffenelcgjdbiaaGreatDoorCards
import Derived.Test.YtffenelcgjdbiaaGreatDoorTie
namespace Go.Proofs.YtffenelcgjdbiaaGreatDoor
open Go Go.Sim Go.ChangeShapes Go.WideShapes Go.ChangeAt Go.WideMaps Go.WideElems Go.RowKit
set_option maxRecDepth 100000
theorem addr_add {a : Addr} (h : a.spot = none) (j : Nat) : a.add j = ⟨a.block, a.off + j, none⟩ := by
  unfold Addr.add
  obtain ⟨b, o, s⟩ := a
  dsimp only at h ⊢
  subst h
  split
  · rename_i h0; subst h0; rfl
  · rfl
theorem vrel_ints {H : Type} {enc : TypeId × Value → H} {W : World} {base : Nat} {t e : TypeId} {k : IntKind} {v : Value} {d : DataW H} {p : List MemPlace} (ht : Tryz.prog.underlying t = some (.slice e)) (he : Tryz.prog.underlying e = some (.int k)) (hc : Tryz.prog.cellsOf e = 1)
    (hv : Value.okWide Tryz.prog W .any base t v) (h : DataW.Trod enc Tryz.prog W 0 (fun _ => true) true t v d p) : ∃ zs : List Int, (∀ n ∈ zs, (Lit.int k n).wf = true) ∧ VRel (gW W) (.lst 1 (zs.map (V.int k)) .unk) v := by
  obtain ⟨a, len, cap, rfl⟩ := okWide_slice ht hv
  obtain ⟨fuel, hf⟩ := h
  have hflat : ∀ zs : List Int, flat (zs.map (V.int k)) = zs.map (V.int k) := fun zs => flat_ones1 fun v hv => by obtain ⟨n, _, rfl⟩ := List.mem_map.1 hv; rfl
  rcases open_ints ht he hc hf with ⟨hcs, _⟩ | ⟨x, l, c, zs, hcs, _, hl, hm, hz, _, hcell, hwz⟩
  · simp [Value.cells] at hcs
    obtain ⟨rfl, rfl, rfl⟩ := hcs
    exact ⟨[], (fun n hn => nomatch hn), .lst rfl (fun _ h => nomatch h) (fun _ h => nomatch h) ⟨.inl rfl, Nat.le_refl 0⟩ (cvs := []) (fun j c hj => nomatch hj) rfl (fun i v c hi => nomatch hi)⟩
  · simp [Value.cells] at hcs
    obtain ⟨rfl, rfl, rfl⟩ := hcs
    have hsp : x.spot = none := by
      simp only [Value.okWide, ht, Cell.okWide, Cell.ok] at hv
      exact hv.2.2.2.1
    have hz : zs.length = cap := by simpa using hz
    refine ⟨zs.take len, fun n hn => hwz n (List.mem_of_mem_take hn), ?_⟩
    refine .lst (by rw [List.length_map, List.length_take]; omega) (fun v hv => by obtain ⟨n, _, rfl⟩ := List.mem_map.1 hv; rfl) (fun v hv => by rw [hflat] at hv; obtain ⟨n, _, rfl⟩ := List.mem_map.1 hv; rfl)
      ⟨.inr ⟨x.block, x.off, by obtain ⟨b, o, s⟩ := x; dsimp only at hsp; subst hsp; rfl⟩, hl⟩ (cvs := (zs.take len).map (Value.int k)) (fun j c hj => ?_) (by rw [hflat]; simp) fun i v c hv hc => ?_
    · refine ⟨x.block, x.off, by obtain ⟨b, o, s⟩ := x; dsimp only at hsp; subst hsp; rfl, ?_⟩
      rw [List.getElem?_map] at hj
      cases hzj : (zs.take len)[j]? with
      | none => rw [hzj] at hj; cases hj
      | some n =>
        rw [hzj] at hj
        cases hj
        have hjl := (List.getElem?_eq_some_iff.1 hzj).1
        rw [List.length_take] at hjl
        have := hcell j (by omega)
        rw [addr_add hsp] at this
        show W.cell? _ = _
        rw [this]
        congr 2
        rw [List.getElem?_take] at hzj
        split at hzj
        · rw [List.getD_eq_getElem?_getD, hzj]; rfl
        · cases hzj
    · rw [hflat, List.getElem?_map] at hv
      rw [List.getElem?_map] at hc
      cases hx : (zs.take len)[i]? with
      | none => rw [hx] at hv; cases hv
      | some n => rw [hx] at hv hc; cases hv; cases hc; exact .int _ _
theorem u32s_of {zs : List Int} (h : ∀ n ∈ zs, (Lit.int .u32 n).wf = true) : ∃ l : List Nat, (∀ n ∈ l, n < 2 ^ 32) ∧ zs.map (V.int .u32) = U32s l := by
  have hb : ∀ n ∈ zs, 0 ≤ n ∧ n < 2 ^ 32 := fun n hn => by
    have := h n hn
    simp [Lit.wf, IntKind.min, IntKind.max, IntKind.bits, IntKind.signed] at this
    omega
  refine ⟨zs.map Int.toNat, fun n hn => ?_, ?_⟩
  · obtain ⟨m, hm, rfl⟩ := List.mem_map.1 hn
    have := hb m hm
    omega
  · unfold U32s
    rw [List.map_map]
    exact List.map_congr_left fun m hm => by
      have := hb m hm
      show V.int .u32 m = V.int .u32 ((m.toNat : Nat) : Int)
      rw [Int.toNat_of_nonneg this.1]
theorem own : ownKnob Tryz.prog.godebug = none := by kernel_rfl
theorem laidOut : laidOutB Tryz.prog = true := by kernel_rfl
theorem door_met (os : Go.Os) (args : Array Value) : laidMetH Tryz.prog laidL ((World.doorLaid Tryz.prog 4000 os).forCall (fun _ _ => 0) ⟨#[], args, []⟩).memory :=
  laidMetH_of_parts3 (fuel := 8) (laidMet_of_run' 8 (by kernel_rfl) (by kernel_rfl)) (by kernel_rfl) (by kernel_rfl)
theorem t64 : (Tryz.prog.globals[1]?).map (·.type) = some 149 := by kernel_rfl
theorem lifted (os : Go.Os) (started : os.Started) (H : Type) (enc : TypeId × Value → H) :
    ReturnsInHanded {} Tryz.checked os 3 .any (fun w args => (Rows.oramDropsSpec.pre enc Tryz.prog Tryz.f3 [] false w args ∧ laidMetH Tryz.prog laidL w) ∧ sizedMet enc Tryz.prog Tryz.f3 (OpenSpec.ofChange Rows.oramDropsSpec) false w args)
      (Rows.oramDropsSpec.post enc Tryz.prog Tryz.f3 false true false false) := by
  refine returnsInHanded_of_change_and (C := Tryz.checked) (X := fun w _ => laidMetH Tryz.prog laidL w) (fun _ _ _ hh h => h.of_heap hh) own started (by kernel_rfl) Tryz.func3
    (ChangeSpec.witness_shaped (enc := enc) (C := Tryz.checked) (os := os) (X := fun w _ => laidMetH Tryz.prog laidL w) false (World.doorLaid Tryz.prog 4000 os) #[.slice none 0 0, .int .i64 0, .int .i64 0] 8 rfl (World.shaped_of_RefB (by kernel_rfl) (by kernel_rfl)) (by kernel_rfl) (by kernel_rfl) (by kernel_rfl) (door_met os _)) ?_
  intro W base args ds gs before hval0 hW _ _ hL _
  have hval : ∀ (j : Nat) t v, Tryz.f3.params[j]? = some t → args[j]? = some v → Value.okWide Tryz.prog W .any base t v := hval0
  have hW' := hW
  obtain ⟨p, q, hA0, hV, rfl, hfz, hnd⟩ := hW
  have hA : DataW.TrodAll enc Tryz.prog W 0 (fun _ => true) true Tryz.f3.params.toList args.toList ds p := hA0
  rw [Tryz.params3] at hA hval
  obtain ⟨v0, vs0, d0, ds0, p0, q0, hargs, rfl, rfl, h0, r0⟩ := trodAll_cons hA
  obtain ⟨v1, vs1, d1, ds1, p1, q1, rfl, rfl, rfl, h1, r1⟩ := trodAll_cons r0
  obtain ⟨v2, vs2, d2, ds2, p2, q2, rfl, rfl, rfl, h2, r2⟩ := trodAll_cons r1
  obtain ⟨rfl, rfl, rfl⟩ := trodAll_nil r2
  obtain rfl : args = #[v0, v1, v2] := by cases args; simp_all
  obtain ⟨rfl, rfl⟩ := trodVars_none hV
  have k0 := h0
  have lt0 : ∀ x ∈ p0, x.block < W.heap.size := by obtain ⟨m, hm⟩ := k0; exact DataW.trod_lt m _ _ _ hm
  obtain ⟨a1, rfl, rfl, rfl, w1⟩ := open_int Tryz.underlying3 (hval 1 3 v1 rfl rfl) h1
  obtain ⟨a2, rfl, rfl, rfl, w2⟩ := open_int Tryz.underlying3 (hval 2 3 v2 rfl rfl) h2
  obtain ⟨zs, hzs, hrel⟩ := vrel_ints Tryz.underlying22 Tryz.underlying57 (by kernel_rfl) (hval 0 22 v0 rfl rfl) h0
  obtain ⟨l, hl, hlz⟩ := u32s_of hzs
  rw [hlz] at hrel
  have hT := tab_met t64 Tryz.underlying149 Tryz.underlying5 (by kernel_rfl) hL
  have hLR : LR (VRel (gW W)) [.lst 1 (U32s l) .unk, .int .i64 a1, .int .i64 a2] (#[v0, .int .i64 a1, .int .i64 a2] : Array Value).toList := by
    refine ⟨rfl, fun i v c hv hc => ?_⟩
    match i, hv, hc with
    | 0, hv, hc => cases hv; cases hc; exact hrel
    | 1, hv, hc => cases hv; cases hc; exact .int _ _
    | 2, hv, hc => cases hv; cases hc; exact .int _ _
  clear hA0 hval0
  refine (rcall_row hT (OramDrops_spec l hl .unk a1 a2 st0) hLR).mono fun e W' ⟨he, bel⟩ => ?_
  subst he
  exact ⟨_, rfl, _, _, _, [], _, [], hW', trodAll_mk1 (shut_bool Tryz.underlying4 _), (trodAll_cons_mk (Below.trod laidOut (by kernel_rfl) (of_decide_eq_true (by kernel_rfl)) k0 bel lt0) (trodAll_cons_mk (shut_int Tryz.underlying3 w1) (trodAll_cons_mk (shut_int Tryz.underlying3 w2) trodAll_mk0))), rfl, bel.frame _, fun h => by cases h⟩
theorem oramDrops_said : Rows.OramDropsSaid :=
  OpenClaim.holds_of_wide 3 Tryz.f3 rfl rfl rfl rfl rfl rfl rfl ⟨rfl, rfl, rfl, rfl, rfl⟩ rfl rfl rfl rfl rfl (by kernel_rfl) Tryz.func3 (by kernel_rfl)
    (of_decide_eq_true (by kernel_rfl)) (by unfold Func.isWrapper; first | (rw [if_pos (by decide +kernel)]; kernel_rfl) | (rw [if_neg (by decide +kernel)]; exact ⟨rfl, rfl⟩))
    (fun os started H enc _ => lifted os started H enc)
theorem oramDrops_holds : Rows.OramDropsCardSaid :=
  Claim7.holds_tied_plain_at .later [] [.data, .data] true (true, "e420a72ea1d52da044268097617a8b29d5420b1d6157f25e2f90df506abe811f") false
    oramDrops_said (fun _ h => by cases h) (by kernel_rfl) (fun _ h => by cases h) oramDrops_row_tie rfl ⟨rfl, rfl⟩ (by kernel_rfl) rfl
    (fun f fn hf hfn => by
      obtain rfl : f = 3 := Option.some.inj ((show Tryz.prog.funcNamed "dumbwaiter/dumbwaiterlaw17.OramDrops" = some 3 by kernel_rfl).symm.trans hf) |>.symm
      obtain rfl : fn = Tryz.f3 := (Option.some.inj (Tryz.func3.symm.trans hfn)).symm
      exact ⟨by kernel_rfl, fun j t ht => by
        rw [Tryz.params3] at ht
        have hm : t ∈ [22, 3, 3] := by simpa using Array.mem_of_getElem? ht
        have hall : ([22, 3, 3].all fun u => !Tryz.prog.wantsStandIn u) = true := by kernel_rfl
        exact (show Tryz.prog.wantsStandIn t = false by simpa using List.all_eq_true.1 hall t hm)⟩)
    (by kernel_rfl)
#print axioms oramDrops_holds
end Go.Proofs.YtffenelcgjdbiaaGreatDoor
