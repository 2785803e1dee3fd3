/- FnParseNamed: for every code, the law of names answers true. No condition. -/
import Derived.Test.YtnogehmgpfpjmaaGreatDoorJ01
import Derived.Test.YtnogehmgpfpjmaaGreatDoorJ02
import Derived.Test.YtnogehmgpfpjmaaGreatDoorJ03
import Derived.Test.YtnogehmgpfpjmaaGreatDoorJ04
import Derived.Test.YtnogehmgpfpjmaaGreatDoorJ05
import Derived.Test.YtnogehmgpfpjmaaGreatDoorJ06
import Derived.WalkKit
import Derived.ProofKit
import Derived.OpenShut
import Derived.ShutString
import Derived.ChangeOld
import Derived.Below
set_option linter.unusedVariables false
set_option linter.unusedSimpArgs false
section
namespace Go.Proofs.YtnogehmgpfpjmaaGreatDoor
open Go Go.Ab Go.Dk
theorem E_laws_FnParseNamed (n : Nat) (v0 : List UInt8) : FF (n + 1) 4 [.one (.fr (.bs v0))] [] =
 (cond (decide (1048576 < (v0.length : Int)))
 (some ([.one (.bool true)], []))
 ((FF n 14 [.one (.fr (.bs v0))] []).bind fun x0 =>
 (rStr x0.1 fun x1 x2 =>
 (rStr x2 fun x3 x4 =>
 (nilV x4 (nilO x0.2
 ((FF n 10 [.one (.str x1), .one (.str x3)] []).bind fun x5 =>
 (rTerm x5.1 fun x6 x7 =>
 (rBool x7 fun x8 x9 =>
 (nilV x9 (nilO x5.2
 ((FF n 9 [.one (.str x1), .one (.str x3)] []).bind fun x10 =>
 (rTerm x10.1 fun x11 x12 =>
 (rBool x12 fun x13 x14 =>
 (nilV x14 (nilO x10.2
 (cond (!decide (x8 = x13))
 (cond (decide (x8 = x13))
 ((FF n 15 [.agg [.int .i64 x6.k, .int .i64 x6.n, .fr (.ts x6.kids)], .agg [.int .i64 x11.k, .int .i64 x11.n, .fr (.ts x11.kids)]] []).bind fun x15 =>
 (rBool x15.1 fun x16 x17 =>
 (nilV x17 (nilO x15.2
 (some ([.one (.bool x16)], []))))))
 (some ([.one (.bool false)], [])))
 ((FF n 15 [.agg [.int .i64 x6.k, .int .i64 x6.n, .fr (.ts x6.kids)], .agg [.int .i64 x11.k, .int .i64 x11.n, .fr (.ts x11.kids)]] []).bind fun x15 =>
 (rBool x15.1 fun x16 x17 =>
 (nilV x17 (nilO x15.2
 (cond (!x16)
 (cond (decide (x8 = x13))
 ((FF n 15 [.agg [.int .i64 x6.k, .int .i64 x6.n, .fr (.ts x6.kids)], .agg [.int .i64 x11.k, .int .i64 x11.n, .fr (.ts x11.kids)]] []).bind fun x18 =>
 (rBool x18.1 fun x19 x20 =>
 (nilV x20 (nilO x18.2
 (some ([.one (.bool x19)], []))))))
 (some ([.one (.bool false)], [])))
 (cond (!x8)
 (cond (decide (x8 = x13))
 ((FF n 15 [.agg [.int .i64 x6.k, .int .i64 x6.n, .fr (.ts x6.kids)], .agg [.int .i64 x11.k, .int .i64 x11.n, .fr (.ts x11.kids)]] []).bind fun x18 =>
 (rBool x18.1 fun x19 x20 =>
 (nilV x20 (nilO x18.2
 (some ([.one (.bool x19)], []))))))
 (some ([.one (.bool false)], [])))
 ((FF n 16 [.agg [.int .i64 x6.k, .int .i64 x6.n, .fr (.ts x6.kids)], .one (.str x3)] []).bind fun x18 =>
 (rStr x18.1 fun x19 x20 =>
 (nilV x20 (nilO x18.2
 ((FF n 17 [.agg [.int .i64 x6.k, .int .i64 x6.n, .fr (.ts x6.kids)]] []).bind fun x21 =>
 (rBool x21.1 fun x22 x23 =>
 (nilV x23 (nilO x21.2
 (cond x22
 ((FF n 18 [.agg [.int .i64 x6.k, .int .i64 x6.n, .fr (.ts x6.kids)]] []).bind fun x24 =>
 (rInt .i64 x24.1 fun x25 x26 =>
 (nilV x26 (nilO x24.2
 (cond (decide (x25 ≤ (x3.size : Int)))
 (cond (x19.toList == (bytesOf []).toList)
 (some ([.one (.bool true)], []))
 ((FF n 19 [.one (.str x1), .one (.str x19), .one (.str x3)] []).bind fun x27 =>
 (rBool x27.1 fun x28 x29 =>
 (nilV x29 (nilO x27.2
 (some ([.one (.bool x28)], [])))))))
 (some ([.one (.bool false)], [])))))))
 (some ([.one (.bool false)], [])))))))))))))))))))))))))))))))))) := by kernel_rfl
end Go.Proofs.YtnogehmgpfpjmaaGreatDoor
end
section
namespace Go.Proofs.YtnogehmgpfpjmaaGreatDoor
open Go.ChangeShapes Go.WideShapes Go.ChangeAt Go.RowKit
open Go.ChangeMaps (open_string shut_string)
open Go.Ab Go.Dk
theorem e_FnParseNamed (l : List UInt8) : Ev 4 [.one (.fr (.bs l))] [] ([.one (.bool true)], []) := by
 refine law_of (C := 5000301) fun n hn => ?_
 refine tot_step (C := 5000300) hn fun n hn _ => ?_
 rw [E_laws_FnParseNamed]
 refine tot_cond (fun _ => ⟨_, rfl, rfl⟩) (fun _ => ?_)
 refine tot_call (t_DrawParseNamed (by omega) l) ?_
 rintro _ ⟨s, names, rfl, hs, hm⟩
 obtain ⟨s, rfl⟩ := as_list s
 obtain ⟨names, rfl⟩ := as_list names
 rw [by_size] at hs hm
 simp only [evt]
 have h1 := f_ParseNamedI (n := n) (s := s) (names := names) (by omega) (by omega) (by omega)
 have h2 := f_ParseNamedS (n := n) (s := s) (names := names) (by omega) (by omega) (by omega)
 simp only [sr] at h1 h2
 rw [h1, h2]
 simp only [evt]
 have hz := ps_size (s := s) (names := names)
 have hps : psX s names = ((psX s names).1, (psX s names).2) := rfl
 generalize he : psX s names = R at *
 obtain ⟨t, b⟩ := R
 simp only at hz hps ⊢
 have hb : T.beq t t = true := (T.beq_iff t t).2 rfl
 rw [f_TermSame t (by omega) (by omega), hb]
 simp only [evt]
 cases b with
 | false =>
  simp only [Bool.not_true, Bool.not_false, cond_true, cond_false, decide_true]
  exact ⟨_, rfl, rfl⟩
 | true =>
  simp only [Bool.not_true, cond_false, decide_true]
  obtain ⟨hv, hf⟩ := ps_ok (s := s) (names := names) (by rw [he])
  rw [he] at hv hf
  simp only at hv hf
  have h3 := f_ShowNamedI (n := n) (t := t) (names := names) (by omega) (by omega) (by omega)
  simp only [sr] at h3
  rw [h3]
  simp only [evt]
  rw [f_TermValid (by omega), hv]
  simp only [evt]
  rw [f_MaxFreeI (by omega) hv]
  simp only [evt]
  rw [by_size, decide_eq_true (show (mfN t : Int) ≤ ((names.length : Nat) : Int) by omega), cond_true, by_toList, by_toList]
  refine tot_cond (fun _ => ⟨_, rfl, rfl⟩) (fun hq => ?_)
  have hne : shX t names ≠ [] := fun h => by rw [h] at hq; cases hq
  have h4 := (sh_ps hne).1
  have h5 := f_NamedSameI (n := n) (a := s) (b := shX t names) (names := names) (by omega) (by omega) (by have := shX_len t names; omega) (by omega)
  simp only [sr] at h5
  rw [h5]
  simp only [evt]
  unfold nsX
  rw [he, h4]
  simp only [hb, Bool.and_self]
  exact ⟨_, rfl, rfl⟩
set_option maxRecDepth 100000 in
theorem lifted_FnParseNamed (os : Os) (started : os.Started) (H : Type) (enc : TypeId × Value → H) :
   ReturnsInHanded {} Tryz.checked os 4 .any (fun w args => (Rows.fnParseNamedSpec.pre enc Tryz.prog Tryz.f4 [] false w args ∧ laidMetH Tryz.prog Rows.fnParseNamedRow.laid w) ∧ sizedMet enc Tryz.prog Tryz.f4 (OpenSpec.ofChange Rows.fnParseNamedSpec) false w args) (Rows.fnParseNamedSpec.post enc Tryz.prog Tryz.f4 false true false false) := by
 refine change_and_shaped (C := Tryz.checked) (X := fun w _ => laidMetH Tryz.prog Rows.fnParseNamedRow.laid w) (fun _ _ _ hh h => h.of_heap hh) own started (by kernel_rfl) Tryz.func4
  (ChangeSpec.witness_shaped (enc := enc) (C := Tryz.checked) (os := os) (X := fun w _ => laidMetH Tryz.prog Rows.fnParseNamedRow.laid w) false (World.laidAll Tryz.prog os Rows.fnParseNamedRow.laid) #[.slice none 0 0] 8 (World.laidAll_os _ _ _)
   (World.shaped_of_ZipB (by kernel_rfl) (by kernel_rfl)) (by kernel_rfl) (by kernel_rfl) (by kernel_rfl)
   (by rw [MakeChecks.laidMetH_plain _ _ _ (by kernel_rfl)]; exact laidMet_laidAll _ (by kernel_rfl) (by kernel_rfl))) ?_
 intro W base args ds gs before hval0 hW hL hsh
 have hL2 : laidMet Tryz.prog Rows.fnParseNamedRow.laid W := by rw [MakeChecks.laidMetH_plain _ _ _ (by kernel_rfl)] at hL; exact hL
 have hgl : Go.Ab.GL noneZ W := gl_of hL2 hsh (by simp [Rows.fnParseNamedRow]) (by simp [Rows.fnParseNamedRow]) (by simp [Rows.fnParseNamedRow])
 have hval : ∀ (j : Nat) t v, Tryz.f4.params[j]? = some t → args[j]? = some v → Value.okWide Tryz.prog W .any base t v := hval0
 have hW' := hW
 obtain ⟨p, q, hA0, hV, rfl, hfz, hnd⟩ := hW
 have hA : DataW.TrodAll enc Tryz.prog W 0 (fun _ => true) true Tryz.f4.params.toList args.toList ds p := hA0
 rw [Tryz.params4] at hA hval
 obtain ⟨v0, vs0, d0, ds0, p0, q0, hargs, rfl, rfl, h0, r0⟩ := trodAll_cons hA
 obtain ⟨rfl, rfl, rfl⟩ := trodAll_nil r0
 obtain rfl : args = #[v0] := by cases args; simp_all
 obtain ⟨rfl, rfl⟩ := trodVars_none hV
 have k0 := h0
 have lt0 : ∀ x ∈ p0, x.block < W.heap.size := by obtain ⟨m, hm⟩ := k0; exact DataW.trod_lt m _ _ _ hm
 obtain ⟨l0, w0⟩ := open_bytes Tryz.underlying30 Tryz.underlying5 (by kernel_rfl) (hval 0 30 v0 rfl rfl) h0
 clear hA0 hval0
 refine (ev_law Tryz.func4 (by kernel_rfl) (args := [.one (.fr (.bs l0))]) (All2.cons (bytes_arg w0) (All2.nil)) hgl (e_FnParseNamed l0)).mono fun e W' ⟨he, hg⟩ => ?_
 have bel := hg.below
 subst he
 exact ⟨_, rfl, _, _, _, [], _, [], hW', trodAll_mk1 (shut_bool Tryz.underlying4 _), (trodAll_cons_mk (Below.trod laidOut (by kernel_rfl) (of_decide_eq_true (by kernel_rfl)) k0 bel lt0) trodAll_mk0), rfl, bel.frame _, fun h => by cases h⟩
theorem FnParseNamed_holds : Rows.FnParseNamedSaid :=
 OpenClaim.holds_of_wide 4 Tryz.f4 rfl rfl rfl rfl rfl rfl rfl ⟨rfl, rfl, rfl, rfl, rfl⟩ rfl rfl rfl rfl rfl (by kernel_rfl) Tryz.func4 (by kernel_rfl)
  (of_decide_eq_true (by kernel_rfl)) (by unfold Func.isWrapper; first | (rw [if_pos (by decide +kernel)]; kernel_rfl) | (rw [if_neg (by decide +kernel)]; exact ⟨rfl, rfl⟩))
  (fun os started H enc _ => lifted_FnParseNamed os started H enc)
theorem FnParseNamed_card : Rows.FnParseNamedCardSaid :=
 Claim7.holds_tied_plain_at .later [] Rows.fnParseNamedCard.laidKinds true Rows.fnParseNamedCard.stood.harness Rows.fnParseNamedCard.stood.looks FnParseNamed_holds (fun _ h => by cases h) (by kernel_rfl) (fun _ h => by cases h) fnParseNamed_row_tie rfl ⟨rfl, rfl⟩ (by kernel_rfl) rfl
  (fun f fn hf hfn => by
   obtain rfl : f = 4 := Option.some.inj ((show Tryz.prog.funcNamed "loop.example/depkernel/laws.FnParseNamed" = some 4 by kernel_rfl).symm.trans hf) |>.symm
   obtain rfl : fn = Tryz.f4 := (Option.some.inj (Tryz.func4.symm.trans hfn)).symm
   exact ⟨by kernel_rfl, fun j t ht => by
    rw [Tryz.params4] at ht
    have hm : t ∈ [30] := by simpa using Array.mem_of_getElem? ht
    have hall : ([30].all fun u => !Tryz.prog.wantsStandIn u) = true := by kernel_rfl
    exact (show Tryz.prog.wantsStandIn t = false by simpa using List.all_eq_true.1 hall t hm)⟩)
  (by kernel_rfl)
#print axioms FnParseNamed_card
end Go.Proofs.YtnogehmgpfpjmaaGreatDoor
end
