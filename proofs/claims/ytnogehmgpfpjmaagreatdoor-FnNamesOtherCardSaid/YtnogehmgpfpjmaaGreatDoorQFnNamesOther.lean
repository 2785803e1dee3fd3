/- FnNamesOther: for every code, the law of names answers true. No condition. -/
import Derived.Test.YtnogehmgpfpjmaaGreatDoorJ01
import Derived.Test.YtnogehmgpfpjmaaGreatDoorJ02
import Derived.Test.YtnogehmgpfpjmaaGreatDoorJ03
import Derived.Test.YtnogehmgpfpjmaaGreatDoorJ04
import Derived.Test.YtnogehmgpfpjmaaGreatDoorJ05
import Derived.Test.YtnogehmgpfpjmaaGreatDoorJ06
import Derived.WalkKit
import Derived.ProofKit
import Derived.OpenShut
import Derived.ShutString
import Derived.ChangeOld
import Derived.Below
set_option linter.unusedVariables false
set_option linter.unusedSimpArgs false
section
namespace Go.Proofs.YtnogehmgpfpjmaaGreatDoor
open Go Go.Ab Go.Dk
noncomputable def L_laws_FnNamesOther_0 (n c : Nat) (v0 v1 v2 : ByteArray) (v3 v4 v5 : Int) (v6 : List T) : OR := runLoop Tryz.prog SS n 6 0 [1, 1, 1, 1, 1, 1, 0, 1, 0] [] c ⟨[anyV, anyV, anyV, .v (.one (.ptr 0 0)), .v (.one (.str v0)), .v (.one (.str v1)), .v (.one (.str v2)), .v (.one (.int .i64 v3)), anyV, anyV, anyV, anyV, anyV, anyV, anyV, anyV, anyV, anyV, anyV, anyV, anyV, anyV, anyV, anyV, anyV, anyV, anyV, anyV, anyV, anyV, anyV, anyV, anyV, anyV, anyV, anyV, anyV, anyV, anyV, anyV, anyV, anyV, anyV, anyV, anyV, anyV, anyV, anyV, anyV, anyV, anyV, anyV, anyV, anyV, anyV, anyV, anyV, anyV, anyV, anyV, anyV, anyV, anyV, anyV, anyV, anyV, anyV, anyV, anyV, anyV, anyV],
 [.cells [.int .i64 v4, .int .i64 v5, .fr (.ts v6)]]⟩
theorem L_laws_FnNamesOther_0_eq (n c : Nat) (v0 v1 v2 : ByteArray) (v3 v4 v5 : Int) (v6 : List T) : L_laws_FnNamesOther_0 n (c + 1) v0 v1 v2 v3 v4 v5 v6 =
 (cond (decide (v3 < (v0.size : Int)))
 (cond (decide (0 ≤ (IntKind.u8.wrap (122 - (IntKind.u8.wrap v3)))) && decide ((IntKind.u8.wrap (122 - (IntKind.u8.wrap v3))) ≤ 255))
 (cond (decide (v2.size + (ByteArray.mk ([(UInt8.ofNat (IntKind.u8.wrap (122 - (IntKind.u8.wrap v3))).toNat)]).toArray).size ≤ 9223372036854775807))
 (L_laws_FnNamesOther_0 n c v0 v1 ((v2 ++ (ByteArray.mk ([(UInt8.ofNat (IntKind.u8.wrap (122 - (IntKind.u8.wrap v3))).toNat)]).toArray)) : ByteArray) (IntKind.i64.wrap (v3 + 1)) v4 v5 v6)
 none)
 none)
 ((FF n 16 [.agg [.int .i64 v4, .int .i64 v5, .fr (.ts v6)], .one (.str v2)] []).bind fun x0 =>
 (rStr x0.1 fun x1 x2 =>
 (nilV x2 (nilO x0.2
 ((FF n 10 [.one (.str x1), .one (.str v2)] []).bind fun x3 =>
 (rTerm x3.1 fun x4 x5 =>
 (rBool x5 fun x6 x7 =>
 (nilV x7 (nilO x3.2
 (cond x6
 ((FF n 15 [.agg [.int .i64 x4.k, .int .i64 x4.n, .fr (.ts x4.kids)], .agg [.int .i64 v4, .int .i64 v5, .fr (.ts v6)]] []).bind fun x8 =>
 (rBool x8.1 fun x9 x10 =>
 (nilV x10 (nilO x8.2
 (cond x9
 (some ([.one (.bool (decide ((x1.size : Int) = (v1.size : Int))))], []))
 (some ([.one (.bool false)], [])))))))
 (some ([.one (.bool false)], []))))))))))))) := by kernel_rfl
theorem E_laws_FnNamesOther (n : Nat) (v0 : List UInt8) : FF (n + 1) 6 [.one (.fr (.bs v0))] [] =
 (cond (decide (1048576 < (v0.length : Int)))
 (some ([.one (.bool true)], []))
 ((FF n 22 [.one (.fr (.bs v0))] []).bind fun x0 =>
 (rTerm x0.1 fun x1 x2 =>
 (rStr x2 fun x3 x4 =>
 (nilV x4 (nilO x0.2
 ((FF n 16 [.agg [.int .i64 x1.k, .int .i64 x1.n, .fr (.ts x1.kids)], .one (.str x3)] []).bind fun x5 =>
 (rStr x5.1 fun x6 x7 =>
 (nilV x7 (nilO x5.2
 ((FF n 23 [.agg [.int .i64 x1.k, .int .i64 x1.n, .fr (.ts x1.kids)], .one (.str x3)] []).bind fun x8 =>
 (rStr x8.1 fun x9 x10 =>
 (nilV x10 (nilO x8.2
 (cond (!(x6.toList == x9.toList))
 ((FF n 23 [.agg [.int .i64 x1.k, .int .i64 x1.n, .fr (.ts x1.kids)], .one (.str x3)] []).bind fun x11 =>
 (rStr x11.1 fun x12 x13 =>
 (nilV x13 (nilO x11.2
 (some ([.one (.bool (x6.toList == x12.toList))], []))))))
 (cond (x6.toList == (bytesOf []).toList)
 ((FF n 23 [.agg [.int .i64 x1.k, .int .i64 x1.n, .fr (.ts x1.kids)], .one (.str x3)] []).bind fun x11 =>
 (rStr x11.1 fun x12 x13 =>
 (nilV x13 (nilO x11.2
 (some ([.one (.bool (x6.toList == x12.toList))], []))))))
 (L_laws_FnNamesOther_0 n n x3 x6 (bytesOf []) 0 (x1.k) (x1.n) (x1.kids)))))))))))))))))) := by kernel_rfl
end Go.Proofs.YtnogehmgpfpjmaaGreatDoor
end
section
namespace Go.Proofs.YtnogehmgpfpjmaaGreatDoor
open Go.ChangeShapes Go.WideShapes Go.ChangeAt Go.RowKit
open Go.ChangeMaps (open_string shut_string)
open Go.Ab Go.Dk
def oth (i : Nat) : List UInt8 := (List.range i).map fun j => UInt8.ofNat (122 - j)
theorem oth_len (i : Nat) : (oth i).length = i := by simp [oth]
theorem oth_succ (i : Nat) : oth (i + 1) = oth i ++ [UInt8.ofNat (122 - i)] := by simp [oth, List.range_succ]
theorem oth_nv : ∀ i, i ≤ 20 → nvB (bytesOf (oth i)) = true := by decide +kernel
theorem oth_loop (n : Nat) (names s : List UInt8) (t : T) (hl : names.length ≤ 20) : ∀ g m (i : Nat), g < m → i + g = names.length →
   ∃ m', L_laws_FnNamesOther_0 n m (bytesOf names) (bytesOf s) (bytesOf (oth i)) i t.k t.n t.kids = L_laws_FnNamesOther_0 n (m' + 1) (bytesOf names) (bytesOf s) (bytesOf (oth names.length)) names.length t.k t.n t.kids := by
 intro g
 induction g with
 | zero =>
  intro m i hm hi
  obtain ⟨m, rfl⟩ := pos_succ (show 0 < m by omega)
  obtain rfl : i = names.length := by omega
  exact ⟨m, rfl⟩
 | succ g ih =>
  intro m i hm hi
  obtain ⟨m, rfl⟩ := pos_succ (show 0 < m by omega)
  have hw : IntKind.i64.wrap ((i : Int) + 1) = ((i + 1 : Nat) : Int) := by rw [wrap64 (by omega)]; omega
  rw [L_laws_FnNamesOther_0_eq, by_size, decide_eq_true (show (i : Int) < ((names.length : Nat) : Int) by omega), cond_true, wrap_u8 (show 0 ≤ (i : Int) ∧ (i : Int) ≤ 255 by omega), wrap_u8 (show 0 ≤ 122 - (i : Int) ∧ 122 - (i : Int) ≤ 255 by omega), decide_eq_true (show 0 ≤ 122 - (i : Int) by omega), decide_eq_true (show 122 - (i : Int) ≤ 255 by omega), Bool.and_self, cond_true, mk_one, show (122 - (i : Int)).toNat = 122 - i by omega, szc (by rw [by_size, by_size, oth_len]; simp only [List.length_cons, List.length_nil]; omega), cond_true, by_app, ← oth_succ, hw]
  exact ih m (i + 1) (by omega) (by omega)
theorem e_FnNamesOther (l : List UInt8) : Ev 6 [.one (.fr (.bs l))] [] ([.one (.bool true)], []) := by
 refine law_of (C := 5000301) fun n hn => ?_
 refine tot_step (C := 5000300) hn fun n hn _ => ?_
 rw [E_laws_FnNamesOther]
 refine tot_cond (fun _ => ⟨_, rfl, rfl⟩) (fun _ => ?_)
 refine tot_call (t_DrawShowNamed (by omega) l) ?_
 rintro _ ⟨t, names, rfl, hz, hm⟩
 obtain ⟨names, rfl⟩ := as_list names
 rw [by_size] at hm
 simp only [evt]
 have h1 := f_ShowNamedI (n := n) (t := t) (names := names) (by omega) (by omega) (by omega)
 have h2 := f_ShowNamedS (n := n) (t := t) (names := names) (by omega) (by omega) (by omega)
 simp only [sr] at h1 h2
 rw [h1]
 simp only [evt]
 rw [h2]
 simp only [evt, beq_self_eq_true]
 rw [by_toList, by_toList]
 refine tot_cond (fun _ => ⟨_, rfl, rfl⟩) (fun hq => ?_)
 have hne : shX t names ≠ [] := fun h => by rw [h] at hq; cases hq
 obtain ⟨h4, hv, hf, hnv, hmb⟩ := sh_ps hne
 have h20 := nvB_size hnv
 rw [by_size] at h20
 obtain ⟨m', hm'⟩ := oth_loop n names (shX t names) t h20 names.length n 0 (by omega) (by omega)
 rw [show bytesOf ([] : List UInt8) = bytesOf (oth 0) from rfl, show (0 : Int) = ((0 : Nat) : Int) from rfl, hm', L_laws_FnNamesOther_0_eq, by_size, decide_eq_false (show ¬ ((names.length : Nat) : Int) < ((names.length : Nat) : Int) by omega), cond_false]
 have hol := oth_len names.length
 have e0 : shX t (oth names.length) = shN (oth names.length).reverse t := by
  unfold shX
  rw [if_pos ⟨hv, oth_nv _ h20, by omega, by omega⟩]
 have e1 : shX t names = shN names.reverse t := by
  unfold shX
  rw [if_pos ⟨hv, hnv, hf, hmb⟩]
 have hne0 : shX t (oth names.length) ≠ [] := by rw [e0]; exact shn_ne t _
 have h5 := f_ShowNamedI (n := n) (t := t) (names := oth names.length) (by omega) (by omega) (by omega)
 have h6 := f_ParseNamedI (n := n) (s := shX t (oth names.length)) (names := oth names.length) (by omega) (by have := shX_len t (oth names.length); omega) (by omega)
 rw [(sh_ps hne0).1] at h6
 simp only [sr] at h5 h6
 rw [show (V1.agg [.int .i64 t.k, .int .i64 t.n, .fr (.ts t.kids)]) = tm t from rfl, h5]
 simp only [evt]
 rw [h6]
 simp only [evt]
 rw [f_TermSame t (by omega) (by omega), (T.beq_iff t t).2 rfl]
 simp only [evt]
 rw [by_size, by_size, e0, e1, shn_len t (oth names.length).reverse names.reverse, decide_eq_true rfl]
 exact ⟨_, rfl, rfl⟩
set_option maxRecDepth 100000 in
theorem lifted_FnNamesOther (os : Os) (started : os.Started) (H : Type) (enc : TypeId × Value → H) :
   ReturnsInHanded {} Tryz.checked os 6 .any (fun w args => (Rows.fnNamesOtherSpec.pre enc Tryz.prog Tryz.f6 [] false w args ∧ laidMetH Tryz.prog Rows.fnNamesOtherRow.laid w) ∧ sizedMet enc Tryz.prog Tryz.f6 (OpenSpec.ofChange Rows.fnNamesOtherSpec) false w args) (Rows.fnNamesOtherSpec.post enc Tryz.prog Tryz.f6 false true false false) := by
 refine change_and_shaped (C := Tryz.checked) (X := fun w _ => laidMetH Tryz.prog Rows.fnNamesOtherRow.laid w) (fun _ _ _ hh h => h.of_heap hh) own started (by kernel_rfl) Tryz.func6
  (ChangeSpec.witness_shaped (enc := enc) (C := Tryz.checked) (os := os) (X := fun w _ => laidMetH Tryz.prog Rows.fnNamesOtherRow.laid w) false (World.laidAll Tryz.prog os Rows.fnNamesOtherRow.laid) #[.slice none 0 0] 8 (World.laidAll_os _ _ _)
   (World.shaped_of_ZipB (by kernel_rfl) (by kernel_rfl)) (by kernel_rfl) (by kernel_rfl) (by kernel_rfl)
   (by rw [MakeChecks.laidMetH_plain _ _ _ (by kernel_rfl)]; exact laidMet_laidAll _ (by kernel_rfl) (by kernel_rfl))) ?_
 intro W base args ds gs before hval0 hW hL hsh
 have hL2 : laidMet Tryz.prog Rows.fnNamesOtherRow.laid W := by rw [MakeChecks.laidMetH_plain _ _ _ (by kernel_rfl)] at hL; exact hL
 have hgl : Go.Ab.GL noneZ W := gl_of hL2 hsh (by simp [Rows.fnNamesOtherRow]) (by simp [Rows.fnNamesOtherRow]) (by simp [Rows.fnNamesOtherRow])
 have hval : ∀ (j : Nat) t v, Tryz.f6.params[j]? = some t → args[j]? = some v → Value.okWide Tryz.prog W .any base t v := hval0
 have hW' := hW
 obtain ⟨p, q, hA0, hV, rfl, hfz, hnd⟩ := hW
 have hA : DataW.TrodAll enc Tryz.prog W 0 (fun _ => true) true Tryz.f6.params.toList args.toList ds p := hA0
 rw [Tryz.params6] at hA hval
 obtain ⟨v0, vs0, d0, ds0, p0, q0, hargs, rfl, rfl, h0, r0⟩ := trodAll_cons hA
 obtain ⟨rfl, rfl, rfl⟩ := trodAll_nil r0
 obtain rfl : args = #[v0] := by cases args; simp_all
 obtain ⟨rfl, rfl⟩ := trodVars_none hV
 have k0 := h0
 have lt0 : ∀ x ∈ p0, x.block < W.heap.size := by obtain ⟨m, hm⟩ := k0; exact DataW.trod_lt m _ _ _ hm
 obtain ⟨l0, w0⟩ := open_bytes Tryz.underlying30 Tryz.underlying5 (by kernel_rfl) (hval 0 30 v0 rfl rfl) h0
 clear hA0 hval0
 refine (ev_law Tryz.func6 (by kernel_rfl) (args := [.one (.fr (.bs l0))]) (All2.cons (bytes_arg w0) (All2.nil)) hgl (e_FnNamesOther l0)).mono fun e W' ⟨he, hg⟩ => ?_
 have bel := hg.below
 subst he
 exact ⟨_, rfl, _, _, _, [], _, [], hW', trodAll_mk1 (shut_bool Tryz.underlying4 _), (trodAll_cons_mk (Below.trod laidOut (by kernel_rfl) (of_decide_eq_true (by kernel_rfl)) k0 bel lt0) trodAll_mk0), rfl, bel.frame _, fun h => by cases h⟩
theorem FnNamesOther_holds : Rows.FnNamesOtherSaid :=
 OpenClaim.holds_of_wide 6 Tryz.f6 rfl rfl rfl rfl rfl rfl rfl ⟨rfl, rfl, rfl, rfl, rfl⟩ rfl rfl rfl rfl rfl (by kernel_rfl) Tryz.func6 (by kernel_rfl)
  (of_decide_eq_true (by kernel_rfl)) (by unfold Func.isWrapper; first | (rw [if_pos (by decide +kernel)]; kernel_rfl) | (rw [if_neg (by decide +kernel)]; exact ⟨rfl, rfl⟩))
  (fun os started H enc _ => lifted_FnNamesOther os started H enc)
theorem FnNamesOther_card : Rows.FnNamesOtherCardSaid :=
 Claim7.holds_tied_plain_at .later [] Rows.fnNamesOtherCard.laidKinds true Rows.fnNamesOtherCard.stood.harness Rows.fnNamesOtherCard.stood.looks FnNamesOther_holds (fun _ h => by cases h) (by kernel_rfl) (fun _ h => by cases h) fnNamesOther_row_tie rfl ⟨rfl, rfl⟩ (by kernel_rfl) rfl
  (fun f fn hf hfn => by
   obtain rfl : f = 6 := Option.some.inj ((show Tryz.prog.funcNamed "loop.example/depkernel/laws.FnNamesOther" = some 6 by kernel_rfl).symm.trans hf) |>.symm
   obtain rfl : fn = Tryz.f6 := (Option.some.inj (Tryz.func6.symm.trans hfn)).symm
   exact ⟨by kernel_rfl, fun j t ht => by
    rw [Tryz.params6] at ht
    have hm : t ∈ [30] := by simpa using Array.mem_of_getElem? ht
    have hall : ([30].all fun u => !Tryz.prog.wantsStandIn u) = true := by kernel_rfl
    exact (show Tryz.prog.wantsStandIn t = false by simpa using List.all_eq_true.1 hall t hm)⟩)
  (by kernel_rfl)
#print axioms FnNamesOther_card
end Go.Proofs.YtnogehmgpfpjmaaGreatDoor
end
