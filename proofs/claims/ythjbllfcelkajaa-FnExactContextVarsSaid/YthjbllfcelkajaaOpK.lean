/- The abstract run is sound: what a function hands back. No program in sight. -/
import Derived.Test.YthjbllfcelkajaaOpJ
set_option linter.unusedVariables false
set_option linter.unusedSimpArgs false
namespace Go.Ab
open Go Go.Dk

section
variable {P : Program} {w0 w w' : World} {M Z0 Z : Zone} {b : Nat} {G G0 : List GO} {s : AS} {tv : List Value} {r : List V1 × List AObj}
theorem resC_sound (hI : InvG w0 M Z0 b G s tv w) : ∀ {l : List ResultVar} {k : List V1 → OR}, resC P s l k = some r →
    ∃ vs xs, k vs = some r ∧ All2 (RV1 G (zn w0 Z0 s G) w) vs xs ∧ (l.mapM (resOne tv.toArray)).run P w = .ok xs w
  | [], k, h => ⟨[], [], h, All2.nil, rfl⟩
  | .tmp t :: l, k, h => by
    unfold resC at h
    split at h
    · rename_i x hx
      obtain ⟨vs, xs, hk, hr, hrun⟩ := resC_sound hI h
      have hv := getD_rel (da := anyV) (db := undef) hI.st.per.1 any_rel t
      rw [hx] at hv
      refine ⟨_, tv.getD t undef :: xs, hk, All2.cons hv hr, ?_⟩
      have h1 : (resOne tv.toArray (.tmp t)).run P w = .ok (tv.getD t undef) w := R_tmp rfl
      simp only [List.mapM_cons, Sem.run_bind, h1, Result.andThen_ok, hrun, Sem.run_pure]
    · cases h
  | .cell a t :: l, k, h => by
    unfold resC at h
    obtain ⟨v, X, bb, o, h, hp, hl, hv⟩ := evLoad_addr (VX := tv.getD a undef) hI (getD_rel hI.st.per.1 any_rel a) h
    split at h
    · rename_i x
      obtain ⟨vs, xs, hk, hr, hrun⟩ := resC_sound hI h
      refine ⟨_, X :: xs, hk, All2.cons hv hr, ?_⟩
      have h1 : (resOne tv.toArray (.cell a t)).run P w = .ok X w := R_cell (ad := ⟨bb, o, none⟩) hp hl
      simp only [List.mapM_cons, Sem.run_bind, h1, Result.andThen_ok, hrun, Sem.run_pure]
    · cases h
theorem run_results {fn : Func} {xs : List Value} (h : (fn.results.toList.mapM (resOne tv.toArray)).run P w = .ok xs w) :
    (results fn tv.toArray).run P w = .ok (if h : xs.toArray.size = 1 then xs.toArray[0] else .tuple xs.toArray) w := by
  rw [results_eq, Array.mapM_eq_mapM_toList]
  simp [Sem.run_bind, h, Sem.run_pure]
theorem clean_like (v : SV) : LikeS v (clean v) := by
  intro G G' Z w X h
  cases v <;> first | exact h | exact ⟨trivial, h.2⟩
theorem cleanL_like : ∀ l : List SV, All2 LikeS l (l.map clean)
  | [] => All2.nil
  | v :: l => All2.cons (clean_like v) (cleanL_like l)
/-- An object that speaks of no other. -/
def Alone (o : AObj) (g : GO) : Prop := ∀ (G G' : List GO) (Z : Zone) (w : World), RO G Z w o g → RO G' Z w o g
theorem alone_arr (e : TypeId) (D : SD) (v : Nat) (z : Bool) (g : GO) : Alone (.arr e D v z) g := fun _ _ _ _ h => RO_arr_any h
theorem alone_cells (l : List SV) (g : GO) : Alone (.cells (l.map clean)) g := by
  intro G G' Z w h
  cases g with
  | cells bb T vs =>
    refine All2.mono h fun v X hv hr => ?_
    obtain ⟨v', _, rfl⟩ := List.mem_map.1 hv
    have hr' : OneR G Z w (clean v') X := hr
    have : ∀ v, clean (clean v) = clean v := by intro v; cases v <;> rfl
    have h2 := clean_like (clean v') G G' Z w X hr'
    rw [this] at h2; exact h2
  | _ => exact h
/-- Objects that wait behind the others. -/
structure Parked (w0 : World) (M Z0 : Zone) (m : Nat) (G : List GO) (tm : List AV) (tv : List Value) (w : World) (h acc : List AObj) (A : List GO) : Prop where
  inv : InvG w0 M Z0 (h.length + acc.length) (G ++ A) ⟨tm, h ++ acc⟩ tv w
  len : h.length = G.length
  alone : All2 Alone acc A
theorem Parked.lenA {m : Nat} {tm : List AV} {h acc : List AObj} {A : List GO} (hp : Parked w0 M Z0 m G tm tv w h acc A) : acc.length = A.length := hp.alone.1
/-- An object is parked. -/
theorem Parked.park {m : Nat} {tm : List AV} {h acc : List AObj} {A : List GO} (hp : Parked w0 M Z0 m G tm tv w h acc A) {j : Nat} {o o' : AObj} {g g' : GO} (hj : h[j]? = some o) (hg : G[j]? = some g) (hres : resO o' g' = resO o g) (ha : Alone o' g')
    (hro : ∀ Z' : Zone, (∀ k, zn w0 Z0 ⟨tm, h ++ acc⟩ (G ++ A) k → Z' k) → RO (G ++ A) Z' w o' g') :
    Parked w0 M Z0 m (G.set j .gone) tm tv w (h.set j .dead) (acc ++ [o']) (A ++ [g']) ∧ (∀ k, zn w0 Z0 ⟨tm, h ++ acc⟩ (G ++ A) k → zn w0 Z0 ⟨tm, h.set j .dead ++ (acc ++ [o'])⟩ (G.set j .gone ++ (A ++ [g'])) k) ∧ Up (G ++ A) (G.set j .gone ++ (A ++ [g'])) := by
  have hjl := lt_of_some hj
  have hgl := lt_of_some hg
  have hj' : (h ++ acc)[j]? = some o := by rw [List.getElem?_append_left hjl]; exact hj
  have hg' : (G ++ A)[j]? = some g := by rw [List.getElem?_append_left hgl]; exact hg
  have hset : (h ++ acc).set j .dead = h.set j .dead ++ acc := by rw [List.set_append_left _ _ hjl]
  have hsetG : (G ++ A).set j .gone = G.set j .gone ++ A := by rw [List.set_append_left _ _ hgl]
  have hperm : (resL (h ++ acc) (G ++ A)).Perm (resL (h.set j .dead ++ (acc ++ [o'])) (G.set j .gone ++ (A ++ [g']))) := by
    refine (resL_out (h ++ acc) (G ++ A) j hj' hg').trans ?_
    rw [hset, hsetG]
    rw [resL_append (by simp [hp.len]), resL_append (by simp [hp.len]), resL_append hp.lenA]
    have : resL [o'] [g'] = resO o g := by simp [resL, hres]
    rw [this]
    have hc := List.perm_append_comm (l₁ := resO o g) (l₂ := resL (h.set j .dead) (G.set j .gone) ++ resL acc A)
    simpa [List.append_assoc] using hc
  have hz : ∀ k, zn w0 Z0 ⟨tm, h ++ acc⟩ (G ++ A) k → zn w0 Z0 ⟨tm, h.set j .dead ++ (acc ++ [o'])⟩ (G.set j .gone ++ (A ++ [g'])) k := fun k hk => ⟨hk.1, fun q hq => hk.2 q (hperm.mem_iff.2 hq)⟩
  have hup : Up (G ++ A) (G.set j .gone ++ (A ++ [g'])) := by
    have h1 : Up (G ++ A) ((G ++ A).set j .gone) := Up.set fun g0 h0 => by cases g0 <;> trivial
    rw [hsetG] at h1
    have h2 := Up.append (G.set j .gone ++ A) [g']
    rw [List.append_assoc] at h2
    exact h1.trans h2
  refine ⟨⟨⟨?_, fun i hi hl => ?_, hp.inv.mz⟩, by simp [hp.len], All2.append hp.alone (All2.cons ha All2.nil)⟩, hz, hup⟩
  · refine (hp.inv.st.perm hperm).weak (relF_stable _ _ _) fun hh => ⟨hh.1.mono fun _ _ _ q => q.up hup, ?_⟩
    have hh2 : All2 (RO (G.set j .gone ++ (A ++ [g'])) (zone w0 Z0 (resL (h.set j .dead ++ (acc ++ [o'])) (G.set j .gone ++ (A ++ [g'])))) w) (h ++ acc) (G ++ A) := hh.2.mono fun _ _ _ q => q.up hup
    have hs := hh2.set j (a := .dead) (b := .gone) trivial
    rw [hset, hsetG] at hs
    have hnew : RO (G.set j .gone ++ (A ++ [g'])) (zone w0 Z0 (resL (h.set j .dead ++ (acc ++ [o'])) (G.set j .gone ++ (A ++ [g'])))) w o' g' := ha _ _ _ _ (hro _ hz)
    rw [← List.append_assoc, ← List.append_assoc]
    rw [← List.append_assoc, ← List.append_assoc] at hs hnew
    exact All2.append hs (All2.cons hnew All2.nil)
  · exfalso
    have := hp.len
    have := hp.lenA
    simp at hi hl; omega
/-- A new object that stands on nothing is parked. -/
theorem Parked.parkNew {m : Nat} {tm : List AV} {h acc : List AObj} {A : List GO} (hp : Parked w0 M Z0 m G tm tv w h acc A) {o' : AObj} {g' : GO} (hn : NewOk o' g') :
    Parked w0 M Z0 m G tm tv w h (acc ++ [o']) (A ++ [g']) ∧ (∀ k, zn w0 Z0 ⟨tm, h ++ acc⟩ (G ++ A) k → zn w0 Z0 ⟨tm, h ++ (acc ++ [o'])⟩ (G ++ (A ++ [g'])) k) ∧ Up (G ++ A) (G ++ (A ++ [g'])) := by
  have hall : All2 NewOk [o'] [g'] := All2.cons hn All2.nil
  have hnew := new_res (w := w) hall
  have hL : resL (h ++ (acc ++ [o'])) (G ++ (A ++ [g'])) = resL (h ++ acc) (G ++ A) ++ resL [o'] [g'] := by
    rw [← List.append_assoc, ← List.append_assoc, resL_append (by have := hp.len; have := hp.lenA; simp; omega)]
  have hS := hp.inv.st.empties hnew
  rw [← hL] at hS
  have hz : ∀ k, zn w0 Z0 ⟨tm, h ++ acc⟩ (G ++ A) k → zn w0 Z0 ⟨tm, h ++ (acc ++ [o'])⟩ (G ++ (A ++ [g'])) k := fun k hk => ⟨hk.1, fun q hq hf => by
    rw [hL] at hq
    exact (List.mem_append.1 hq).elim (fun hq => hk.2 q hq hf) (fun hq => (hnew q hq).1 k hf)⟩
  have hup : Up (G ++ A) (G ++ (A ++ [g'])) := by rw [← List.append_assoc]; exact Up.append _ _
  refine ⟨⟨⟨?_, fun i hi hl => ?_, hp.inv.mz⟩, hp.len, All2.append hp.alone (All2.cons ?_ All2.nil)⟩, hz, hup⟩
  · refine hS.weak (relF_stable _ _ _) fun hh => ⟨hh.1.mono fun _ _ _ q => q.up hup, ?_⟩
    have := All2.append (All2.mono hh.2 fun _ _ _ q => RO.up hup q) (new_RO (G := G ++ (A ++ [g'])) (Z := zone w0 Z0 (resL (h ++ (acc ++ [o'])) (G ++ (A ++ [g'])))) (w := w) hall)
    rw [List.append_assoc, List.append_assoc] at this
    exact this
  · exfalso
    have := hp.len
    have := hp.lenA
    simp at hi hl; omega
  · obtain ⟨e, a, rfl, rfl⟩ := hn
    exact alone_arr _ _ _ _ _
/-- Behind taking out some of what is handed back. -/
structure OutTo (w0 : World) (M Z0 : Zone) (m : Nat) (G : List GO) (tm : List AV) (tv : List Value) (w : World) (h acc : List AObj) (A : List GO) (b : Nat) (h' os : List AObj) (G' N : List GO) (Rel : List GO → Prop) : Prop where
  park : Parked w0 M Z0 m G' tm tv w h' (acc ++ os) (A ++ N)
  hl : h'.length = h.length
  zl : ∀ k, zn w0 Z0 ⟨tm, h ++ acc⟩ (G ++ A) k → zn w0 Z0 ⟨tm, h' ++ (acc ++ os)⟩ (G' ++ (A ++ N)) k
  up : Up (G ++ A) (G' ++ (A ++ N))
  nl : os.length = N.length
  rel : ∀ Gf, At_ b N Gf → Rel Gf
theorem Parked.freezeAt {m : Nat} {tm : List AV} {h acc : List AObj} {A : List GO} (hp : Parked w0 M Z0 m G tm tv w h acc A) {j : Nat} {e : TypeId} {D : SD} {ver : Nat} {fz : Bool} (hj : h[j]? = some (.arr e D ver fz)) :
    Parked w0 M Z0 m G tm tv w (h.set j (.arr e D ver true)) acc A ∧ (∀ k, zn w0 Z0 ⟨tm, h ++ acc⟩ (G ++ A) k → zn w0 Z0 ⟨tm, h.set j (.arr e D ver true) ++ acc⟩ (G ++ A) k) := by
  have hjl := lt_of_some hj
  obtain ⟨h1, h2⟩ := hp.inv.freezeAt (j := j) (e := e) (D := D) (ver := ver) (fz := fz) (by show (h ++ acc)[j]? = _; rw [List.getElem?_append_left hjl]; exact hj)
  have hset : (h ++ acc).set j (.arr e D ver true) = h.set j (.arr e D ver true) ++ acc := by rw [List.set_append_left _ _ hjl]
  simp only [hset] at h1 h2
  exact ⟨⟨by simpa using h1, by simp [hp.len], hp.alone⟩, h2⟩
theorem getJ {m : Nat} {tm : List AV} {h acc : List AObj} {A : List GO} (hp : Parked w0 M Z0 m G tm tv w h acc A) {j : Nat} {o : AObj} (hj : h[j]? = some o) : ∃ g, G[j]? = some g ∧ (G ++ A)[j]? = some g ∧ RO (G ++ A) (zn w0 Z0 ⟨tm, h ++ acc⟩ (G ++ A)) w o g := by
  have hjl := lt_of_some hj
  obtain ⟨g, hg, hr⟩ := hp.inv.st.per.2.get (i := j) (a := o) (by show (h ++ acc)[j]? = _; rw [List.getElem?_append_left hjl]; exact hj)
  have hl : j < G.length := by rw [← hp.len]; exact hjl
  exact ⟨g, by rw [List.getElem?_append_left hl] at hg; exact hg, hg, hr⟩
theorem sealS_parked {m : Nat} {tm : List AV} {h acc : List AObj} {A : List GO} (hp : Parked w0 M Z0 m G tm tv w h acc A) {v : SV} {X : Value} {k : SV → List AObj → OR} (hx : OneR (G ++ A) (zn w0 Z0 ⟨tm, h ++ acc⟩ (G ++ A)) w v X) (hk : sealS h v k = some r) :
    ∃ v' h', k v' h' = some r ∧ Parked w0 M Z0 m G tm tv w h' acc A ∧ h'.length = h.length ∧ (∀ k, zn w0 Z0 ⟨tm, h ++ acc⟩ (G ++ A) k → zn w0 Z0 ⟨tm, h' ++ acc⟩ (G ++ A) k) ∧ OneR (G ++ A) (zn w0 Z0 ⟨tm, h' ++ acc⟩ (G ++ A)) w v' X ∧
      ∀ (i : Nat) c, h[i]? = some (.cells c) → h'[i]? = some (.cells c) := by
  unfold sealS at hk
  split at hk
  · rename_i j v
    split at hk
    · rename_i e D ver fz hj
      obtain ⟨hv, hk'⟩ := cond_left hk
      simp only [Nat.beq_eq] at hv
      obtain ⟨q1, q2⟩ := hp.freezeAt hj
      have hjl := lt_of_some hj
      refine ⟨_, _, hk', q1, by simp, q2, ⟨?_, hx.2⟩, fun i c hi => ?_⟩
      · exact q1.inv.frozen_val (j := j) (v := v) (e := e) (D := D) (ver := ver) (X := X) (by show (h.set j _ ++ acc)[j]? = _; rw [List.getElem?_append_left (by simpa using hjl)]; simp [hjl]) hv (hx.1.stable (keeps_le q2))
      · have : j ≠ i := by rintro rfl; rw [hj] at hi; cases hi
        rw [List.getElem?_set_ne this]; exact hi
    · cases hk
  · obtain ⟨⟨a, rfl⟩, h2⟩ := hx
    exact ⟨_, _, hk, hp, rfl, fun _ h => h, ⟨SlR_nil _ _, h2⟩, fun _ _ h => h⟩
  · exact ⟨_, _, hk, hp, rfl, fun _ h => h, hx, fun _ _ h => h⟩
theorem sealL_parked {m : Nat} {tm : List AV} {acc : List AObj} {A : List GO} : ∀ {l : List SV} {h : List AObj} {xs : List Value} {k : List SV → List AObj → OR}, Parked w0 M Z0 m G tm tv w h acc A → All2 (OneR (G ++ A) (zn w0 Z0 ⟨tm, h ++ acc⟩ (G ++ A)) w) l xs → sealL h l k = some r →
    ∃ l' h', k l' h' = some r ∧ Parked w0 M Z0 m G tm tv w h' acc A ∧ h'.length = h.length ∧ (∀ k, zn w0 Z0 ⟨tm, h ++ acc⟩ (G ++ A) k → zn w0 Z0 ⟨tm, h' ++ acc⟩ (G ++ A) k) ∧ All2 (OneR (G ++ A) (zn w0 Z0 ⟨tm, h' ++ acc⟩ (G ++ A)) w) l' xs ∧
      ∀ (i : Nat) c, h[i]? = some (.cells c) → h'[i]? = some (.cells c)
  | [], h, xs, k, hp, ha, hk => by
    obtain rfl := ha.nil_inv
    exact ⟨_, _, hk, hp, rfl, fun _ h => h, All2.nil, fun _ _ h => h⟩
  | v :: l, h, xs, k, hp, ha, hk => by
    obtain ⟨X, xs', rfl, h1, h2⟩ := ha.cons_inv
    unfold sealL at hk
    obtain ⟨v', h', hk1, q1, q2, q3, q4, q5⟩ := sealS_parked hp h1 hk
    obtain ⟨l', h'', hk2, p1, p2, p3, p4, p5⟩ := sealL_parked q1 (h2.mono fun _ _ _ q => q.mono (keeps_le q3) (Up.refl _)) hk1
    exact ⟨_, _, hk2, p1, p2.trans q2, fun k hk => p3 k (q3 k hk), All2.cons (q4.mono (keeps_le p3) (Up.refl _)) p4, fun i c hi => p5 i c (q5 i c hi)⟩
theorem outC_sound {own : Bool} {m : Nat} {tm : List AV} : ∀ {l : List SV} {h acc : List AObj} {G A : List GO} {b : Nat} {xs : List Value} {k : List SV → List AObj → List AObj → OR},
    Parked w0 M Z0 m G tm tv w h acc A → All2 (OneR (G ++ A) (zn w0 Z0 ⟨tm, h ++ acc⟩ (G ++ A)) w) l xs → outC own l h b k = some r →
    ∃ cs h' os G' N, k cs h' os = some r ∧ OutTo w0 M Z0 m G tm tv w h acc A b h' os G' N (fun Gf => All2 (OneR Gf (zn w0 Z0 ⟨tm, h' ++ (acc ++ os)⟩ (G' ++ (A ++ N))) w) cs xs)
  | [], h, acc, G, A, b, xs, k, hp, ha, hk => by
    obtain rfl := ha.nil_inv
    exact ⟨[], h, [], G, [], hk, by simpa using hp, rfl, by simp, by simpa using Up.refl (G ++ A), rfl, fun _ _ => All2.nil⟩
  | v :: l, h, acc, G, A, b, xs, k, hp, ha, hk => by
    obtain ⟨X, xs', rfl, h1, h2⟩ := ha.cons_inv
    -- a cell that stays what it is, or is forgotten
    have same : ∀ v', LikeS v v' → outC own l h b (fun cs h os => k (v' :: cs) h os) = some r → ∃ cs h' os G' N, k cs h' os = some r ∧ OutTo w0 M Z0 m G tm tv w h acc A b h' os G' N (fun Gf => All2 (OneR Gf (zn w0 Z0 ⟨tm, h' ++ (acc ++ os)⟩ (G' ++ (A ++ N))) w) cs (X :: xs')) := by
      intro v' hv hk
      obtain ⟨cs, h', os, G', N, hk', ho⟩ := outC_sound hp h2 hk
      exact ⟨_, h', os, G', N, hk', ho.park, ho.hl, ho.zl, ho.up, ho.nl, fun Gf hA => All2.cons ((hv _ Gf _ _ _ h1).mono (keeps_le ho.zl) (Up.refl _)) (ho.rel Gf hA)⟩
    -- an object is parked
    have parked : ∀ {h2' : List AObj} {G2 : List GO} {o' : AObj} {g' : GO}, Parked w0 M Z0 m G2 tm tv w h2' (acc ++ [o']) (A ++ [g']) → h2'.length = h.length →
        (∀ k, zn w0 Z0 ⟨tm, h ++ acc⟩ (G ++ A) k → zn w0 Z0 ⟨tm, h2' ++ (acc ++ [o'])⟩ (G2 ++ (A ++ [g'])) k) → Up (G ++ A) (G2 ++ (A ++ [g'])) → ∀ v' : SV, (∀ Gf, Gf[b]? = some g' → OneR Gf (zn w0 Z0 ⟨tm, h ++ acc⟩ (G ++ A)) w v' X) →
        outC own l h2' (b + 1) (fun cs h os => k (v' :: cs) h (o' :: os)) = some r → ∃ cs h' os G' N, k cs h' os = some r ∧ OutTo w0 M Z0 m G tm tv w h acc A b h' os G' N (fun Gf => All2 (OneR Gf (zn w0 Z0 ⟨tm, h' ++ (acc ++ os)⟩ (G' ++ (A ++ N))) w) cs (X :: xs')) := by
      intro h2' G2 o' g' hp2 hl2 hz2 hu2 v' hv hk
      obtain ⟨cs, h', os, G', N, hk', ho⟩ := outC_sound hp2 (h2.mono fun _ _ _ q => q.mono (keeps_le hz2) hu2) hk
      have e1 : acc ++ o' :: os = acc ++ [o'] ++ os := by simp
      have e2 : A ++ g' :: N = A ++ [g'] ++ N := by simp
      refine ⟨_, h', o' :: os, G', g' :: N, hk', ?_, ho.hl.trans hl2, ?_, ?_, by simp [ho.nl], fun Gf hA => ?_⟩
      · rw [e1, e2]; exact ho.park
      · rw [e1, e2]; exact fun k hk => ho.zl k (hz2 k hk)
      · rw [e2]; exact hu2.trans ho.up
      · rw [e1, e2]
        refine All2.cons ((hv Gf (hA 0 g' rfl)).mono (keeps_le fun k hk => ho.zl k (hz2 k hk)) (Up.refl _)) (ho.rel Gf fun i g hi => ?_)
        have := hA (i + 1) g (by simpa using hi)
        rw [show b + 1 + i = b + (i + 1) by omega]; exact this
    cases v with
    | own j v0 =>
      simp only [outC] at hk
      split at hk
      · rename_i e D ver fz hj
        replace hk := cond_left hk; obtain ⟨hv, hk⟩ := hk
        simp only [Nat.beq_eq] at hv
        obtain ⟨g, hg, hg', hr⟩ := getJ hp hj
        cases g with
        | arr ver' val sz xs0 =>
          have hverr := hr.1
          subst hverr
          have hX := own_val h1.1 hg' hv
          rcases cond_some hk with ⟨_, hk⟩ | ⟨_, hk⟩
          · obtain ⟨hfz, hk2⟩ := cond_right hk
            subst hfz
            obtain ⟨q1, q2, q3⟩ := hp.park (o' := .arr e D 0 false) (g' := .arr 0 val sz xs0) hj hg rfl (alone_arr _ _ _ _ _) (fun Z' h => ⟨rfl, (RO.stable (keeps_le h) hr).2⟩)
            exact parked q1 (by simp) q2 q3 (.own b 0) (fun Gf hGf => ⟨.inr ⟨0, val, sz, xs0, hGf, Nat.le_refl _, fun _ => hX⟩, h1.2⟩) hk2
          · obtain ⟨q1, q2⟩ := hp.freezeAt hj
            obtain ⟨cs, h', os, G', N, hk', ho⟩ := outC_sound q1 (h2.mono fun _ _ _ q => q.mono (keeps_le q2) (Up.refl _)) hk
            refine ⟨_, h', os, G', N, hk', ho.park, by rw [ho.hl]; simp, fun k hk => ho.zl k (q2 k hk), ho.up, ho.nl, fun Gf hA => All2.cons ?_ (ho.rel Gf hA)⟩
            have hjl := lt_of_some hj
            have hsl := q1.inv.frozen_val (j := j) (v := v0) (e := e) (D := D) (ver := ver) (X := X) (by show (h.set j _ ++ acc)[j]? = _; rw [List.getElem?_append_left (by simpa using hjl)]; simp [hjl]) hv (h1.1.stable (keeps_le q2))
            exact ⟨SlR.stable (keeps_le ho.zl) hsl, h1.2⟩
        | _ => exact hr.elim
      · cases hk
    | emp e => cases e with
      | none => exact same .any (fun _ _ _ _ _ h => ⟨trivial, h.2⟩) (by simpa only [outC] using hk)
      | some e =>
        simp only [outC] at hk
        obtain ⟨⟨a, hXa⟩, hXo⟩ := id h1
        rcases cond_some hk with ⟨_, hk⟩ | ⟨_, hk⟩
        · obtain ⟨q1, q2, q3⟩ := hp.parkNew (o' := .arr e.1 e.2.nil 0 false) (g' := .arr 0 (.slice a 0 0) e.2.size []) ⟨e, a, rfl, rfl⟩
          exact parked q1 rfl q2 q3 (.own b 0) (fun Gf hGf => ⟨.inr ⟨0, _, _, _, hGf, Nat.le_refl _, fun _ => hXa⟩, hXo⟩) hk
        · refine same (.fr e.2.nil) (fun G1 G2 Z w X hX => ?_) hk
          obtain ⟨⟨a, rfl⟩, hX2⟩ := hX
          exact ⟨SlR_nil _ _, hX2⟩
    | ptr j o => cases o with
      | zero =>
        simp only [outC] at hk
        split at hk
        · rename_i c hj
          obtain ⟨g, hg, hg', hr⟩ := getJ hp hj
          cases g with
          | cells bb T vs =>
            have hjl := lt_of_some hj
            obtain ⟨c', h3, hk2, hp3, hl3, hz3, hc3, hj3⟩ := sealL_parked hp hr hk
            obtain ⟨q1, q2, q3⟩ := hp3.park (o' := .cells (c'.map clean)) (g' := .cells bb T vs) (hj3 j _ hj) hg rfl (alone_cells _ _) (fun Z' h => like_one (cleanL_like c') (hc3.mono fun _ _ _ q => q.mono (keeps_le h) (Up.refl _)))
            exact parked q1 (by rw [List.length_set]; exact hl3) (fun k hk => q2 k (hz3 k hk)) q3 (.ptr b 0) (fun Gf hGf => ⟨.inr ⟨bb, T, vs, hGf, ptr_val h1.1 hg'⟩, h1.2⟩) hk2
          | _ => exact hr.elim
        · cases hk
      | succ o => exact same .any (fun _ _ _ _ _ h => ⟨trivial, h.2⟩) (by simpa only [outC] using hk)
    | int a n => exact same (.int a n) (fun _ _ _ _ _ h => h) (by simpa only [outC] using hk)
    | bool x => exact same (.bool x) (fun _ _ _ _ _ h => h) (by simpa only [outC] using hk)
    | str x => exact same (.str x) (fun _ _ _ _ _ h => h) (by simpa only [outC] using hk)
    | fr x => exact same (.fr x) (fun _ _ _ _ _ h => h) (by simpa only [outC] using hk)
    | ep e o => exact same .any (fun _ _ _ _ _ h => ⟨trivial, h.2⟩) (by simpa only [outC] using hk)
    | op j v i o => exact same .any (fun _ _ _ _ _ h => ⟨trivial, h.2⟩) (by simpa only [outC] using hk)
    | fn f l => exact same .any (fun _ _ _ _ _ h => ⟨trivial, h.2⟩) (by simpa only [outC] using hk)
    | nilp => exact same .any (fun _ _ _ _ _ h => ⟨trivial, h.2⟩) (by simpa only [outC] using hk)
    | any => exact same .any (fun _ _ _ _ _ h => ⟨trivial, h.2⟩) (by simpa only [outC] using hk)
end
end Go.Ab
