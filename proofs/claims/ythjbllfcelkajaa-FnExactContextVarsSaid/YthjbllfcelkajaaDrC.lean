/- What the operations of a drawn region do, each by itself, and in any order. No program in sight. -/
import Derived.Test.YthjbllfcelkajaaDrB
set_option linter.unusedVariables false
set_option linter.unusedSimpArgs false
namespace Go.Ab
open Go Go.Dk

/-- What one operation did. -/
structure Eff where
  /-- carried out -/
  want : Bool
  /-- carried out, and looked at memory -/
  on : Bool
  fp : List Nat
  wr : List Nat
  b : Nat
  v : AV
  h : List AObj
def Eff.app (d : Option Tmp) (e : Eff) (s : AS) : AS := AS.put { s with heap := mixH e.wr 0 s.heap e.h } d e.v
def foldE : List (Oper × Eff) → Nat → (Nat → Bool) → AS → AS
  | [], _, _, s => s
  | x :: l, i, L, s => foldE l (i + 1) L (cond (L i) (x.2.app x.1.dst s) s)
theorem mixH_get (js : List Nat) : ∀ (h h' : List AObj) (i j : Nat), (mixH js i h h')[j]? = cond (hasN (i + j) js) (h[j]?.map fun o => h'[j]?.getD o) h[j]?
  | [], _, i, j => by simp [mixH]
  | o :: h, [], i, j => by
    have : (fun o : AObj => ([] : List AObj)[j]?.getD o) = id := by funext o; simp
    rw [this, mixH]
    · cases hasN (i + j) js <;> simp
    · simp
  | o :: h, o' :: h', i, 0 => by simp only [Nat.add_zero, mixH, List.getElem?_cons_zero, Option.map_some, Option.getD_some]; cases hasN i js <;> rfl
  | o :: h, o' :: h', i, j + 1 => by
    simp only [mixH, List.getElem?_cons_succ]
    rw [mixH_get js h h' (i + 1) j, show i + 1 + j = i + (j + 1) by omega]
theorem AS.ext {s t : AS} (h1 : s.tmps = t.tmps) (h2 : s.heap = t.heap) : s = t := by cases s; cases t; simp_all
theorem app_heap (d : Option Tmp) (e : Eff) (s : AS) : (e.app d s).heap = mixH e.wr 0 s.heap e.h := put_heap _ _ _
theorem app_tmps (d : Option Tmp) (e : Eff) (s : AS) : (e.app d s).tmps = (match d with | some d => s.tmps.set d e.v | none => s.tmps) := by cases d <;> rfl
/-- Two that may change places. -/
def Free (d : Option Tmp) (e : Eff) (d' : Option Tmp) (e' : Eff) : Prop := (∀ q, d = some q → d' ≠ some q) ∧ ∀ j, j ∈ e.wr → j ∉ e'.wr
theorem app_comm {d d' : Option Tmp} {e e' : Eff} (h : Free d e d' e') (s : AS) : e.app d (e'.app d' s) = e'.app d' (e.app d s) := by
  refine AS.ext ?_ ?_
  · simp only [app_tmps]
    cases d with
    | none => cases d' <;> rfl
    | some q => cases d' with
      | none => rfl
      | some q' => exact List.set_comm _ _ fun hq => h.1 q rfl (by rw [← hq])
  · simp only [app_heap]
    refine List.ext_getElem? fun j => ?_
    simp only [mixH_get, Nat.zero_add]
    cases h1 : hasN j e.wr with
    | false => cases h2 : hasN j e'.wr <;> rfl
    | true => cases h2 : hasN j e'.wr with
      | false => rfl
      | true => exact absurd (hasN_iff.1 h2) (h.2 j (hasN_iff.1 h1))
theorem foldE_skip {L : Nat → Bool} : ∀ {l : List (Oper × Eff)} {i : Nat} {s : AS}, (∀ q, i ≤ q → L q = false) → foldE l i L s = s
  | [], _, _, _ => rfl
  | x :: l, i, s, h => by simp only [foldE, h i (Nat.le_refl i), cond_false]; exact foldE_skip fun q hq => h q (by omega)
theorem foldE_congr {L L' : Nat → Bool} : ∀ {l : List (Oper × Eff)} {i : Nat} {s : AS}, (∀ q, i ≤ q → q < i + l.length → L q = L' q) → foldE l i L s = foldE l i L' s
  | [], _, _, _ => rfl
  | x :: l, i, s, h => by
    simp only [foldE, h i (Nat.le_refl i) (by simp)]
    exact foldE_congr fun q hq hl => h q (by omega) (by simp only [List.length_cons]; omega)
theorem foldE_len {L : Nat → Bool} : ∀ {l : List (Oper × Eff)} {i : Nat} {s : AS}, (foldE l i L s).heap.length = s.heap.length
  | [], _, _ => rfl
  | x :: l, i, s => by
    simp only [foldE]; rw [foldE_len]
    cases L i with
    | false => rfl
    | true => rw [cond_true, app_heap, mixH_length]
theorem foldE_comm {L : Nat → Bool} {d : Option Tmp} {e : Eff} : ∀ {l : List (Oper × Eff)} {i : Nat} {s : AS},
    (∀ q x, l[q]? = some x → L (i + q) = true → Free d e x.1.dst x.2) → foldE l i L (e.app d s) = e.app d (foldE l i L s)
  | [], _, _, _ => rfl
  | x :: l, i, s, h => by
    simp only [foldE]
    have h' : ∀ q y, l[q]? = some y → L (i + 1 + q) = true → Free d e y.1.dst y.2 := fun q y hy hL => h (q + 1) y (by simpa using hy) (by rw [show i + (q + 1) = i + 1 + q by omega]; exact hL)
    cases hL : L i with
    | false => exact foldE_comm h'
    | true =>
      simp only [cond_true]
      rw [← app_comm (h 0 x rfl hL), foldE_comm h']
theorem foldE_add {L : Nat → Bool} {o : Oper} {e : Eff} : ∀ {l : List (Oper × Eff)} {i p : Nat} {s : AS}, l[p]? = some (o, e) → L (i + p) = false →
    (∀ q x, p < q → l[q]? = some x → L (i + q) = true → Free o.dst e x.1.dst x.2) → foldE l i (fun q => L q || Nat.beq q (i + p)) s = e.app o.dst (foldE l i L s)
  | [], _, _, _, h, _, _ => by simp at h
  | x :: l, i, 0, s, h, hL, hf => by
    simp only [List.getElem?_cons_zero, Option.some.injEq] at h
    subst h
    simp only [Nat.add_zero] at hL
    simp only [foldE, Nat.add_zero, hL, Nat.beq_refl, Bool.or_true, cond_true, cond_false]
    rw [← foldE_comm fun q x hx hLq => hf (q + 1) x (by omega) (by simpa using hx) (by rw [show i + (q + 1) = i + 1 + q by omega]; exact hLq)]
    refine foldE_congr fun q hq _ => ?_
    have : Nat.beq q i = false := by cases hb : Nat.beq q i with | false => rfl | true => simp only [Nat.beq_eq] at hb; omega
    simp [this]
  | x :: l, i, p + 1, s, h, hL, hf => by
    have hb : Nat.beq i (i + (p + 1)) = false := by cases hb : Nat.beq i (i + (p + 1)) with | false => rfl | true => simp only [Nat.beq_eq] at hb; omega
    simp only [foldE, hb, Bool.or_false]
    have he : i + (p + 1) = i + 1 + p := by omega
    rw [he]
    exact foldE_add (by simpa using h) (by rw [← he]; exact hL) fun q x hq hx hLq => hf (q + 1) x (by omega) (by simpa using hx) (by rw [show i + (q + 1) = i + 1 + q by omega]; exact hLq)
theorem foldE_heap {L L' : Nat → Bool} {j : Nat} : ∀ {l : List (Oper × Eff)} {i : Nat} {s s' : AS}, s.heap[j]? = s'.heap[j]? →
    (∀ q x, l[q]? = some x → L (i + q) ≠ L' (i + q) → j ∉ x.2.wr) → (foldE l i L s).heap[j]? = (foldE l i L' s').heap[j]?
  | [], _, _, _, hs, _ => hs
  | x :: l, i, s, s', hs, h => by
    simp only [foldE]
    refine foldE_heap ?_ fun q y hy hne => h (q + 1) y (by simpa using hy) (by rw [show i + (q + 1) = i + 1 + q by omega]; exact hne)
    have hap : ∀ t : AS, j ∉ x.2.wr → (x.2.app x.1.dst t).heap[j]? = t.heap[j]? := fun t hj => by
      rw [app_heap]; exact mixH_out (by cases hh : hasN (0 + j) x.2.wr with | false => rfl | true => rw [Nat.zero_add] at hh; exact absurd (hasN_iff.1 hh) hj)
    cases h1 : L i <;> cases h2 : L' i <;> simp only [cond_true, cond_false]
    · exact hs
    · rw [hap _ (h 0 x rfl (by simp [h1, h2]))]; exact hs
    · rw [hap _ (h 0 x rfl (by simp [h1, h2]))]; exact hs
    · simp only [app_heap, mixH_get, hs]
theorem foldE_tmps {L L' : Nat → Bool} {t : Nat} : ∀ {l : List (Oper × Eff)} {i : Nat} {s s' : AS}, s.tmps[t]? = s'.tmps[t]? →
    (∀ q x, l[q]? = some x → L (i + q) ≠ L' (i + q) → x.1.dst ≠ some t) → (foldE l i L s).tmps[t]? = (foldE l i L' s').tmps[t]?
  | [], _, _, _, hs, _ => hs
  | x :: l, i, s, s', hs, h => by
    simp only [foldE]
    refine foldE_tmps ?_ fun q y hy hne => h (q + 1) y (by simpa using hy) (by rw [show i + (q + 1) = i + 1 + q by omega]; exact hne)
    have hap : ∀ u : AS, x.1.dst ≠ some t → (x.2.app x.1.dst u).tmps[t]? = u.tmps[t]? := fun u hj => by
      rw [app_tmps]
      split
      · rename_i d hd; rw [List.getElem?_set_ne (fun e => hj (by rw [hd]; exact congrArg some e))]
      · rfl
    have hap2 : (x.2.app x.1.dst s).tmps[t]? = (x.2.app x.1.dst s').tmps[t]? := by
      rw [app_tmps, app_tmps]
      split
      · rename_i d hd
        by_cases hdt : d = t
        · subst hdt
          rw [List.getElem?_set_self', List.getElem?_set_self', hs]
        · rw [List.getElem?_set_ne hdt, List.getElem?_set_ne hdt]; exact hs
      · exact hs
    cases h1 : L i <;> cases h2 : L' i <;> simp only [cond_true, cond_false]
    · exact hs
    · rw [hap _ (h 0 x rfl (by simp [h1, h2]))]; exact hs
    · rw [hap _ (h 0 x rfl (by simp [h1, h2]))]; exact hs
    · exact hap2

/-! The run in the order of the text, taken apart. -/
def Guard (ops : List Oper) (o : Oper) (s : AS) (on : Bool) : Prop :=
  match o.guard with
  | none => on = true
  | some (j, want) => ∃ d, ops[j]?.bind (·.dst) = some d ∧ ((∃ bb, s.tmps[d]? = some (boolV bb) ∧ on = (bb == want)) ∨ (s.tmps[d]? = some undV ∧ on = false))
theorem wantK_out {ops : List Oper} {o : Oper} {s : AS} {yes no : AS → OR} {r : List V1 × List AObj} (h : wantK ops s o.guard yes no = some r) :
    ∃ on, Guard ops o s on ∧ (on = true → yes s = some r) ∧ (on = false → no s = some r) := by
  unfold wantK at h
  unfold Guard
  split at h
  · rename_i hg; exact ⟨true, by rw [hg], fun _ => h, nofun⟩
  · rename_i j want hg
    rw [hg]
    split at h
    · rename_i d hd
      split at h
      · rename_i bb hb
        have hdl : s.tmps[d]? = some (.v (.one (.bool bb))) := by
          cases hs : s.tmps[d]? with
          | none => simp [List.getD, hs, anyV] at hb
          | some v => simp [List.getD, hs] at hb; rw [hb]
        have hput : ∀ c, c = bb → s.put (some d) (boolV c) = s := by
          rintro c rfl
          show AS.mk (s.tmps.set d _) s.heap = s
          have : s.tmps.set d (boolV c) = s.tmps := set_same hdl
          rw [this]
        refine ⟨bb == want, ⟨d, hd, .inl ⟨bb, hdl, rfl⟩⟩, ?_, ?_⟩
        · cases bb <;> cases want <;> simp only [cond_true, cond_false] at h <;> intro he <;> first | (cases he; done) | (rw [hput _ rfl] at h; exact h)
        · cases bb <;> cases want <;> simp only [cond_true, cond_false] at h <;> intro he <;> first | (cases he; done) | (rw [hput _ rfl] at h; exact h)
      · rename_i hb
        have hdl : s.tmps[d]? = some undV := by
          cases hs : s.tmps[d]? with
          | none => simp [List.getD, hs, anyV] at hb
          | some v => simp [List.getD, hs] at hb; rw [hb]; rfl
        exact ⟨false, ⟨d, hd, .inr ⟨hdl, rfl⟩⟩, nofun, fun _ => h⟩
      · cases h
    · cases h
def StepOk (P : Program) (F : Callee) (D : Dec) (ops : List Oper) (o : Oper) (e : Eff) (s : AS) : Prop :=
  Guard ops o s e.want ∧
  (e.on = true → e.want = true ∧ e.wr = writes o e.fp e.b (nObj P D o) ∧ (∀ j, e.b ≤ j → j < e.b + nObj P D o → j ∈ e.fp) ∧ (∀ j ∈ e.fp, j < e.b + nObj P D o) ∧
    closB s.heap e.fp (refsOf s o) = true ∧ (∀ k', evOp P F D o s.ev (onlyH e.fp 0 s.heap) e.b k' = k' e.v e.h) ∧ closB e.h e.fp (refsA e.v) = true) ∧
  (e.on = false → e.wr = [] ∧ (e.want = false → e.v = undV) ∧ (e.want = true → lightB o = true ∧ (refsA e.v).all (hasN · (refsOf s o)) = true ∧ ∃ h', ∀ k', evOp P F D o s.ev [] 0 k' = k' e.v h'))
theorem mixH_nil : ∀ (i : Nat) (h h' : List AObj), mixH [] i h h' = h
  | _, [], _ => by simp [mixH]
  | _, _ :: _, [] => by simp [mixH]
  | i, o :: h, o' :: h' => by simp only [mixH, hasN, cond_false, mixH_nil (i + 1) h h']
theorem evDr_trace {P : Program} {F : Callee} {D : Dec} {ops : List Oper} {an : List (List Nat)} {k : AS → OR} {r : List V1 × List AObj} : ∀ {l : List Oper} {i : Nat} {ds : List Done} {b : Nat} {s : AS},
    evDr P F D ops an l i ds b s k = some r → ∃ es : List Eff, es.length = l.length ∧ k (foldE (l.zip es) i (fun _ => true) s) = some r ∧
      (∀ p o e, (l.zip es)[p]? = some (o, e) → e.b = b + room P D (l.take p) ∧ StepOk P F D ops o e (foldE (l.zip es) i (fun q => Nat.blt q (i + p)) s)) ∧
      (∀ p o e, (l.zip es)[p]? = some (o, e) → e.on = true → ∀ d ∈ ds, okDone (an.getD (i + p) []) e.fp e.wr d = true) ∧
      (∀ p q o e o' e', p < q → (l.zip es)[p]? = some (o, e) → (l.zip es)[q]? = some (o', e') → e.on = true → e'.on = true → okDone (an.getD (i + q) []) e'.fp e'.wr ⟨i + p, e.fp, e.wr⟩ = true)
  | [], i, ds, b, s, h => ⟨[], rfl, h, fun p o e hp => by simp at hp, fun p o e hp => by simp at hp, fun p q o e o' e' _ hp => by simp at hp⟩
  | o :: l, i, ds, b, s, h => by
    unfold evDr at h
    obtain ⟨on, hg, h1, h2⟩ := wantK_out h
    -- what is left, behind the first
    have rest : ∀ (e : Eff) (ds' : List Done), e.b = b → StepOk P F D ops o e s → (∀ d ∈ ds, d ∈ ds') → (e.on = true → (∀ d ∈ ds, okDone (an.getD i []) e.fp e.wr d = true) ∧ (⟨i, e.fp, e.wr⟩ : Done) ∈ ds') →
        evDr P F D ops an l (i + 1) ds' (b + nObj P D o) (e.app o.dst s) k = some r → ∃ es : List Eff, es.length = (o :: l).length ∧ k (foldE ((o :: l).zip es) i (fun _ => true) s) = some r ∧
      (∀ p o' e, ((o :: l).zip es)[p]? = some (o', e) → e.b = b + room P D ((o :: l).take p) ∧ StepOk P F D ops o' e (foldE ((o :: l).zip es) i (fun q => Nat.blt q (i + p)) s)) ∧
      (∀ p o' e, ((o :: l).zip es)[p]? = some (o', e) → e.on = true → ∀ d ∈ ds, okDone (an.getD (i + p) []) e.fp e.wr d = true) ∧
      (∀ p q o1 e o' e', p < q → ((o :: l).zip es)[p]? = some (o1, e) → ((o :: l).zip es)[q]? = some (o', e') → e.on = true → e'.on = true → okDone (an.getD (i + q) []) e'.fp e'.wr ⟨i + p, e.fp, e.wr⟩ = true) := by
      intro e ds' heb hst hds hok hrun
      obtain ⟨es, a1, a2, a3, a4, a5⟩ := evDr_trace hrun
      refine ⟨e :: es, by simp [a1], ?_, ?_, ?_, ?_⟩
      · simpa only [List.zip_cons_cons, foldE, cond_true] using a2
      · intro p o' e' hp
        cases p with
        | zero =>
          simp only [List.zip_cons_cons, List.getElem?_cons_zero, Option.some.injEq, Prod.mk.injEq] at hp
          obtain ⟨rfl, rfl⟩ := hp
          refine ⟨by simp [heb, room], ?_⟩
          rw [foldE_skip]
          · exact hst
          · intro q hq
            cases hb : Nat.blt q (i + 0) with
            | false => rfl
            | true => rw [Nat.blt_eq] at hb; omega
        | succ p =>
          simp only [List.zip_cons_cons, List.getElem?_cons_succ] at hp
          obtain ⟨c1, c2⟩ := a3 p o' e' hp
          refine ⟨by rw [c1]; simp only [List.take_succ_cons, room]; omega, ?_⟩
          have hbl : Nat.blt i (i + (p + 1)) = true := by rw [Nat.blt_eq]; omega
          simp only [List.zip_cons_cons, foldE, hbl, cond_true]
          rw [show i + (p + 1) = i + 1 + p by omega]; exact c2
      · intro p o' e' hp hon' d hd
        cases p with
        | zero =>
          simp only [List.zip_cons_cons, List.getElem?_cons_zero, Option.some.injEq, Prod.mk.injEq] at hp
          obtain ⟨rfl, rfl⟩ := hp
          exact (hok hon').1 d hd
        | succ p =>
          simp only [List.zip_cons_cons, List.getElem?_cons_succ] at hp
          have := a4 p o' e' hp hon' d (hds d hd)
          rw [show i + (p + 1) = i + 1 + p by omega]; exact this
      · intro p q o1 e1 o' e' hpq hp hq hon1 hon'
        cases q with
        | zero => omega
        | succ q =>
          simp only [List.zip_cons_cons, List.getElem?_cons_succ] at hq
          rw [show i + (q + 1) = i + 1 + q by omega]
          cases p with
          | zero =>
            simp only [List.zip_cons_cons, List.getElem?_cons_zero, Option.some.injEq, Prod.mk.injEq] at hp
            obtain ⟨rfl, rfl⟩ := hp
            exact a4 q o' e' hq hon' _ (hok hon1).2
          | succ p =>
            simp only [List.zip_cons_cons, List.getElem?_cons_succ] at hp
            have := a5 p q o1 e1 o' e' (by omega) hp hq hon1 hon'
            rw [show i + (p + 1) = i + 1 + p by omega]; exact this
    cases on with
    | false =>
      have h := h2 rfl
      refine rest ⟨false, false, [], [], b, undV, []⟩ ds rfl ⟨hg, nofun, fun _ => ⟨rfl, fun _ => rfl, nofun⟩⟩ (fun d hd => hd) nofun ?_
      unfold Eff.app
      simp only [mixH_nil]
      exact h
    | true =>
      have h := h1 rfl
      simp only at h
      rcases cond_some h with ⟨hl, h⟩ | ⟨_, h⟩
      · obtain ⟨v, h', h, hk⟩ := evOp_N P F D o s.ev _ _ _ _ h
        obtain ⟨hr, h⟩ := cond_left h
        refine rest ⟨true, false, [], [], b, v, []⟩ ds rfl ⟨hg, nofun, fun _ => ⟨rfl, nofun, fun _ => ⟨hl, hr, h', hk⟩⟩⟩ (fun d hd => hd) nofun ?_
        unfold Eff.app
        simp only [mixH_nil]
        exact h
      obtain ⟨hc, h⟩ := cond_left h
      simp only [Bool.and_eq_true, List.all_eq_true, Nat.blt_eq] at hc
      obtain ⟨hc1, hc2, hc3⟩ := hc
      obtain ⟨v, h', h, hk⟩ := evOp_N P F D o s.ev _ b _ _ h
      obtain ⟨hcl, h⟩ := cond_left h
      refine rest ⟨true, true, _, _, b, v, h'⟩ _ rfl ⟨hg, fun _ => ⟨rfl, rfl, fun j hj hl => ?_, fun j hj => ?_, hc1, hk, hcl⟩, nofun⟩ (fun d hd => List.mem_cons_of_mem _ hd) (fun _ => ⟨hc3, List.mem_cons_self ..⟩) h
      · exact List.mem_append.2 (.inr (by rw [List.mem_range'_1]; exact ⟨hj, hl⟩))
      · rcases List.mem_append.1 hj with hj | hj
        · exact Nat.lt_of_lt_of_le (hc2 j hj) (Nat.le_add_right _ _)
        · rw [List.mem_range'_1] at hj; exact hj.2
end Go.Ab
