/- The abstract run of one operation hands one result to whatever follows. No program in sight. -/
import Derived.Test.YtbkpfjabcohnpaaOp4
set_option linter.unusedVariables false
set_option linter.unusedSimpArgs false
namespace Go.Ab
open Go Go.Dk

def N1 {α : Type} (f : (α → OR) → OR) : Prop := ∀ k r, f k = some r → ∃ a, k a = some r ∧ ∀ k', f k' = k' a
def N2 {α β : Type} (f : (α → β → OR) → OR) : Prop := ∀ k r, f k = some r → ∃ a b, k a b = some r ∧ ∀ k', f k' = k' a b
def N4 {α β γ δ : Type} (f : (α → β → γ → δ → OR) → OR) : Prop := ∀ k r, f k = some r → ∃ a b c d, k a b c d = some r ∧ ∀ k', f k' = k' a b c d
theorem N1.pure {α : Type} (a : α) : N1 fun k => k a := fun k r h => ⟨a, h, fun _ => rfl⟩
theorem N2.pure {α β : Type} (a : α) (b : β) : N2 fun k => k a b := fun k r h => ⟨a, b, h, fun _ => rfl⟩
theorem N4.pure {α β γ δ : Type} (a : α) (b : β) (c : γ) (d : δ) : N4 fun k => k a b c d := fun k r h => ⟨a, b, c, d, h, fun _ => rfl⟩
theorem N1.none {α : Type} : N1 fun (k : α → OR) => none := fun k r h => by cases h
theorem N2.none {α β : Type} : N2 fun (k : α → β → OR) => none := fun k r h => by cases h
theorem N4.none {α β γ δ : Type} : N4 fun (k : α → β → γ → δ → OR) => none := fun k r h => by cases h
theorem N1.cond {α : Type} {b : Bool} {f g : (α → OR) → OR} (hf : N1 f) (hg : N1 g) : N1 fun k => cond b (f k) (g k) := by cases b; exact hg; exact hf
theorem N2.cond {α β : Type} {b : Bool} {f g : (α → β → OR) → OR} (hf : N2 f) (hg : N2 g) : N2 fun k => cond b (f k) (g k) := by cases b; exact hg; exact hf
theorem N4.cond {α β γ δ : Type} {b : Bool} {f g : (α → β → γ → δ → OR) → OR} (hf : N4 f) (hg : N4 g) : N4 fun k => cond b (f k) (g k) := by cases b; exact hg; exact hf
theorem N1.bind {α β : Type} {o : Option β} {f : β → (α → OR) → OR} (hf : ∀ x, N1 (f x)) : N1 fun k => o.bind fun x => f x k := by cases o; exact N1.none; exact hf _
theorem N2.bind {α β γ : Type} {o : Option γ} {f : γ → (α → β → OR) → OR} (hf : ∀ x, N2 (f x)) : N2 fun k => o.bind fun x => f x k := by cases o; exact N2.none; exact hf _
theorem N4.bind {α β γ δ ε : Type} {o : Option ε} {f : ε → (α → β → γ → δ → OR) → OR} (hf : ∀ x, N4 (f x)) : N4 fun k => o.bind fun x => f x k := by cases o; exact N4.none; exact hf _
/-- One behind the other. -/
theorem N1.then1 {α β : Type} {g : (β → OR) → OR} {f : β → (α → OR) → OR} (hg : N1 g) (hf : ∀ x, N1 (f x)) : N1 fun k => g fun x => f x k := by
  intro k r h
  obtain ⟨x, hx, hk⟩ := hg _ _ h
  obtain ⟨a, ha, hk'⟩ := hf x _ _ hx
  exact ⟨a, ha, fun k' => (hk _).trans (hk' k')⟩
theorem N2.then1 {α β γ : Type} {g : (γ → OR) → OR} {f : γ → (α → β → OR) → OR} (hg : N1 g) (hf : ∀ x, N2 (f x)) : N2 fun k => g fun x => f x k := by
  intro k r h
  obtain ⟨x, hx, hk⟩ := hg _ _ h
  obtain ⟨a, b, ha, hk'⟩ := hf x _ _ hx
  exact ⟨a, b, ha, fun k' => (hk _).trans (hk' k')⟩
theorem N4.then1 {α β γ δ ε : Type} {g : (ε → OR) → OR} {f : ε → (α → β → γ → δ → OR) → OR} (hg : N1 g) (hf : ∀ x, N4 (f x)) : N4 fun k => g fun x => f x k := by
  intro k r h
  obtain ⟨x, hx, hk⟩ := hg _ _ h
  obtain ⟨a, b, c, d, ha, hk'⟩ := hf x _ _ hx
  exact ⟨a, b, c, d, ha, fun k' => (hk _).trans (hk' k')⟩
theorem N1.then2 {α β γ : Type} {g : (β → γ → OR) → OR} {f : β → γ → (α → OR) → OR} (hg : N2 g) (hf : ∀ x y, N1 (f x y)) : N1 fun k => g fun x y => f x y k := by
  intro k r h
  obtain ⟨x, y, hx, hk⟩ := hg _ _ h
  obtain ⟨a, ha, hk'⟩ := hf x y _ _ hx
  exact ⟨a, ha, fun k' => (hk _).trans (hk' k')⟩
theorem N2.then2 {α β γ δ : Type} {g : (γ → δ → OR) → OR} {f : γ → δ → (α → β → OR) → OR} (hg : N2 g) (hf : ∀ x y, N2 (f x y)) : N2 fun k => g fun x y => f x y k := by
  intro k r h
  obtain ⟨x, y, hx, hk⟩ := hg _ _ h
  obtain ⟨a, b, ha, hk'⟩ := hf x y _ _ hx
  exact ⟨a, b, ha, fun k' => (hk _).trans (hk' k')⟩
theorem N4.then2 {α β γ δ ε ζ : Type} {g : (ε → ζ → OR) → OR} {f : ε → ζ → (α → β → γ → δ → OR) → OR} (hg : N2 g) (hf : ∀ x y, N4 (f x y)) : N4 fun k => g fun x y => f x y k := by
  intro k r h
  obtain ⟨x, y, hx, hk⟩ := hg _ _ h
  obtain ⟨a, b, c, d, ha, hk'⟩ := hf x y _ _ hx
  exact ⟨a, b, c, d, ha, fun k' => (hk _).trans (hk' k')⟩
theorem N2.then4 {α β γ δ ε ζ : Type} {g : (γ → δ → ε → ζ → OR) → OR} {f : γ → δ → ε → ζ → (α → β → OR) → OR} (hg : N4 g) (hf : ∀ x y z u, N2 (f x y z u)) : N2 fun k => g fun x y z u => f x y z u k := by
  intro k r h
  obtain ⟨x, y, z, u, hx, hk⟩ := hg _ _ h
  obtain ⟨a, b, ha, hk'⟩ := hf x y z u _ _ hx
  exact ⟨a, b, ha, fun k' => (hk _).trans (hk' k')⟩

section
variable (P : Program)
theorem get_N (d : SD) (i : Nat) : N1 (d.get i) := by
  cases d <;> exact N1.bind fun x => N1.pure _
theorem app_N (d e : SD) : N1 (d.app e) := by
  unfold SD.app; split <;> first | exact N1.pure _ | exact N1.none
theorem set_N (d : SD) (i : Nat) (e : SE) : N1 (d.set i e) := by
  unfold SD.set; split <;> first | exact N1.pure _ | exact N1.none
theorem readS_N (h : List AObj) (x : SV) : N1 (readS h x) := by
  unfold readS; split
  · exact N1.pure _
  · exact N1.pure _
  · split
    · exact N1.cond (N1.pure _) N1.none
    · exact N1.none
  · exact N1.none
theorem sealS_N (h : List AObj) (x : SV) : N2 (sealS h x) := by
  unfold sealS; split
  · split
    · exact N2.cond (N2.pure _ _) N2.none
    · exact N2.none
  · exact N2.pure _ _
  · exact N2.pure _ _
theorem sealL_N : ∀ (l : List SV) (h : List AObj), N2 (sealL h l)
  | [], h => N2.pure _ _
  | x :: l, h => by
    show N2 fun k => sealS h x fun x' h' => sealL h' l fun l' h'' => k (x' :: l') h''
    exact N2.then2 (sealS_N h x) fun x' h' => N2.then2 (sealL_N l h') fun _ _ => N2.pure _ _
theorem elemOf_N (e : SK) (l : List SV) : N1 (elemOf e l) := by
  unfold elemOf; split <;> first | exact N1.pure _ | exact N1.none | exact N1.cond (N1.pure _) N1.none
theorem elemsOf_N (e : SK) : ∀ (cs : List (List SV)) (h : List AObj) (d : SD), N2 (elemsOf e h cs d)
  | [], h, d => N2.pure _ _
  | c :: cs, h, d => by
    show N2 fun k => sealL h c fun c' h' => elemOf e c' fun x => (d.snoc x).bind fun d' => elemsOf e h' cs d' k
    exact N2.then2 (sealL_N c h) fun c' h' => N2.then1 (elemOf_N e c') fun x => N2.bind fun d' => elemsOf_N e cs h' d'
theorem packK_N (t : TypeId) (l : List SV) : N1 (packK P t l) := by
  unfold packK; split
  · split
    · exact N1.pure _
    · exact N1.none
  · split
    · exact N1.cond (N1.pure _) N1.none
    · exact N1.none
theorem evLoad_N (t : TypeId) (x : AV) (h : List AObj) : N1 (evLoad P t x h) := by
  unfold evLoad; split
  · split
    · exact packK_N P _ _
    · exact N1.none
  · exact packK_N P _ _
  · split
    · exact N1.cond (N1.then1 (get_N _ _) fun e => packK_N P _ _) N1.none
    · exact N1.none
  · exact N1.none
theorem evStore_N (t : TypeId) (x y : AV) (h : List AObj) : N1 (evStore P t x y h) := by
  unfold evStore; split
  · refine N1.bind fun yc => ?_
    split
    · split
      · exact N1.cond (N1.pure _) N1.none
      · exact N1.none
    · refine N1.then2 (sealL_N _ _) fun c h => ?_
      split
      · exact N1.cond (N1.then1 (elemOf_N _ _) fun x => N1.then1 (set_N _ _ _) fun d => N1.pure _) N1.none
      · exact N1.none
    · exact N1.none
  · exact N1.none
theorem evInt_N (op : BinOp) (ka : IntKind) (a b : Int) : N1 (evInt op ka a b) := by
  unfold evInt; split <;> first | exact N1.pure _ | exact N1.none | exact N1.cond N1.none (N1.pure _)
theorem evStr_N (op : BinOp) (a b : ByteArray) : N1 (evStr op a b) := by
  unfold evStr; split <;> first | exact N1.pure _ | exact N1.none | exact N1.cond (N1.pure _) N1.none
theorem evBin_N (op : BinOp) (t : TypeId) (x y : AV) : N1 (evBin P op t x y) := by
  unfold evBin; split
  · exact N1.cond (evInt_N _ _ _ _) N1.none
  · exact evStr_N _ _ _
  · split
    · split <;> first | exact N1.pure _ | exact N1.none
    · exact N1.none
  · exact N1.none
theorem evUn_N (op : UnOp) (x : AV) : N1 (evUn op x) := by
  unfold evUn; split <;> first | exact N1.pure _ | exact N1.none
theorem evConv_N (t t' : TypeId) (x : AV) (h : List AObj) : N1 (evConv P t t' x h) := by
  unfold evConv; split
  · split <;> first | exact N1.pure _ | exact N1.none
  · split
    · refine N1.then1 (readS_N _ _) fun d => ?_
      split <;> first | exact N1.pure _ | exact N1.none
    · exact N1.none
  · exact N1.none
theorem optInt_N (x : AV) : N1 (optInt x) := by
  unfold optInt; split <;> first | exact N1.pure _ | exact N1.none
theorem bounds_N (lo hi : Option AV) (n : Nat) : N2 (evSlice.bounds lo hi n) := by
  unfold evSlice.bounds; split
  · exact N2.pure _ _
  · exact N2.then1 (optInt_N _) fun l => N2.cond (N2.pure _ _) N2.none
  · exact N2.then1 (optInt_N _) fun l => N2.cond (N2.pure _ _) N2.none
  · exact N2.then1 (optInt_N _) fun l => N2.then1 (optInt_N _) fun m => N2.cond (N2.pure _ _) N2.none
theorem evSlice_N (t : TypeId) (x : AV) (lo hi mx : Option AV) (h : List AObj) : N2 (evSlice P t x lo hi mx h) := by
  unfold evSlice; split
  · refine N2.cond (N2.then1 (optInt_N _) fun m => ?_) N2.none
    split
    · refine N2.then1 (optInt_N _) fun n => N2.cond ?_ N2.none
      split
      · exact N2.cond (N2.pure _ _) N2.none
      · split
        · exact N2.cond (N2.pure _ _) N2.none
        · exact N2.none
      · exact N2.pure _ _
      · exact N2.none
    · refine N2.then1 (optInt_N _) fun n => N2.then1 (optInt_N _) fun l => N2.cond ?_ N2.none
      split
      · exact N2.cond (N2.pure _ _) N2.none
      · split
        · exact N2.cond (N2.pure _ _) N2.none
        · exact N2.none
      · exact N2.pure _ _
      · exact N2.none
    · exact N2.none
  · split
    · split
      · exact N2.then2 (bounds_N _ _ _) fun l n => N2.pure _ _
      · exact N2.none
    · split
      · refine N2.then2 (sealS_N _ _) fun x' h' => ?_
        split
        · exact N2.cond (N2.then2 (bounds_N _ _ _) fun l n => N2.pure _ _) N2.none
        · exact N2.none
      · exact N2.none
    · exact N2.none
theorem evIndexAddr_N (t : TypeId) (x y : AV) (h : List AObj) : N1 (evIndexAddr P t x y h) := by
  unfold evIndexAddr; split
  · exact N1.none
  · refine N1.then1 (optInt_N _) fun i => N1.cond ?_ N1.none
    split
    · exact N1.cond (N1.then1 (get_N _ _) fun x => N1.pure _) N1.none
    · split
      · exact N1.cond (N1.cond (N1.pure _) N1.none) N1.none
      · exact N1.none
    · exact N1.none
theorem evLen_N (t : TypeId) (x : AV) (h : List AObj) : N1 (evLen P t x h) := by
  unfold evLen; split
  · split <;> first | exact N1.pure _ | exact N1.none
  · split <;> first | exact N1.pure _ | exact N1.none
  · split
    · exact N1.then1 (readS_N _ _) fun d => N1.pure _
    · exact N1.none
  · exact N1.none
theorem evAppend_N (t : TypeId) (x y : AV) (h : List AObj) (sl : Nat) : N2 (evAppend P t x y h sl) := by
  unfold evAppend; split
  · exact N2.none
  · split
    · refine N2.then1 (readS_N _ _) fun d' => N2.cond ?_ N2.none
      split
      · split
        · exact N2.cond (N2.then1 (app_N _ _) fun d => N2.cond (N2.pure _ _) N2.none) N2.none
        · exact N2.none
      · exact N2.cond (N2.pure _ _) N2.none
      · exact N2.none
    · exact N2.none
theorem evMake_N (t : TypeId) (x y : AV) (h : List AObj) (sl : Nat) : N2 (evMake P t x y h sl) := by
  unfold evMake
  refine N2.then1 (optInt_N _) fun n => N2.then1 (optInt_N _) fun m => N2.cond ?_ N2.none
  split
  · exact N2.cond (N2.bind fun d => N2.pure _ _) N2.none
  · exact N2.none
theorem evField_N (h : List AObj) (d : Nat) (v : AV) : N1 (evField h d v) := by
  unfold evField; split <;> first | exact N1.pure _ | exact N1.none | exact N1.cond (N1.pure _) N1.none
theorem evNil_N (h : List AObj) (v : AV) : N1 (evNil h v) := by
  unfold evNil; split <;> first | exact N1.pure _ | exact N1.none | exact N1.cond (N1.pure _) N1.none
theorem evIndex_N (t : TypeId) (x y : AV) : N1 (evIndex P t x y) := by
  unfold evIndex; split
  · refine N1.then1 (optInt_N _) fun n => N1.cond ?_ N1.none
    split <;> first | exact N1.pure _ | exact N1.none
  · exact N1.none
theorem evExtract_N (x : AV) (i : Nat) : N1 (evExtract x i) := by
  unfold evExtract; split
  · exact N1.bind fun x => N1.pure _
  · exact N1.none
theorem evMax_N (mx : Bool) (x y : AV) : N1 (evMax mx x y) := by
  unfold evMax; split <;> first | exact N1.cond (N1.pure _) N1.none | exact N1.none
theorem evBuild_N (t : TypeId) (ps : List (Nat × AV)) : N1 (evBuild P t ps) := N1.bind fun _ => N1.bind fun _ => N1.bind fun _ => N1.pure _
theorem sealVs_N : ∀ (l : List V1) (h : List AObj), N2 (sealVs h l)
  | [], h => N2.pure _ _
  | .agg c :: l, h => by
    show N2 fun k => sealL h c fun c h => sealVs h l fun vs h => k (.agg c :: vs) h
    exact N2.then2 (sealL_N c h) fun c h => N2.then2 (sealVs_N l h) fun _ _ => N2.pure _ _
  | .one x :: l, h => by
    have h1 : N2 fun k => sealVs h l fun vs h => k (.one .any :: vs) h := N2.then2 (sealVs_N l h) fun _ _ => N2.pure _ _
    have h2 : N2 fun k => sealS h x fun x h => sealVs h l fun vs h => k (.one x :: vs) h := N2.then2 (sealS_N h x) fun x h => N2.then2 (sealVs_N l h) fun _ _ => N2.pure _ _
    cases x <;> first | exact h2 | exact h1
theorem intC_N (a : IntKind) (l : List SV) : N2 (intC a l) := by unfold intC; split <;> first | exact N2.cond (N2.pure _ _) N2.none | exact N2.none
theorem boolC_N (l : List SV) : N2 (boolC l) := by unfold boolC; split <;> first | exact N2.pure _ _ | exact N2.none
theorem strC_N (l : List SV) : N2 (strC l) := by unfold strC; split <;> first | exact N2.pure _ _ | exact N2.none
theorem slC_N (e : SK) (l : List SV) : N2 (slC e l) := by
  cases e
  · show N2 fun k => tsC l fun x l => k (SD.ts x) l; refine N2.then2 (g := tsC l) ?_ fun _ _ => N2.pure _ _; unfold tsC; split <;> first | exact N2.pure _ _ | exact N2.none
  · show N2 fun k => isC l fun x l => k (SD.is x) l; refine N2.then2 (g := isC l) ?_ fun _ _ => N2.pure _ _; unfold isC; split <;> first | exact N2.pure _ _ | exact N2.none
  · show N2 fun k => issC l fun x l => k (SD.iss x) l; refine N2.then2 (g := issC l) ?_ fun _ _ => N2.pure _ _; unfold issC; split <;> first | exact N2.pure _ _ | exact N2.none
  · show N2 fun k => ssC l fun x l => k (SD.ss x) l; refine N2.then2 (g := ssC l) ?_ fun _ _ => N2.pure _ _; unfold ssC; split <;> first | exact N2.pure _ _ | exact N2.none
  · show N2 fun k => bsC l fun x l => k (SD.bs x) l; refine N2.then2 (g := bsC l) ?_ fun _ _ => N2.pure _ _; unfold bsC; split <;> first | exact N2.pure _ _ | exact N2.none
theorem anyC_N (l : List SV) : N1 (anyC l) := by unfold anyC; split <;> first | exact N1.pure _ | exact N1.none
theorem likeC_N (x : SV) (l : List SV) : N2 (likeC x l) := by
  unfold likeC; split
  · exact N2.then2 (intC_N _ _) fun _ _ => N2.pure _ _
  · exact N2.then2 (boolC_N _) fun _ _ => N2.pure _ _
  · exact N2.then2 (strC_N _) fun _ _ => N2.pure _ _
  · exact N2.then2 (slC_N _ _) fun _ _ => N2.pure _ _
  · exact N2.then2 (slC_N _ _) fun _ _ => N2.pure _ _
  · exact N2.then1 (anyC_N _) fun _ => N2.pure _ _
theorem likeL_N : ∀ (x l : List SV), N1 (likeL x l)
  | [], l => by
    show N1 fun k => nilC l (k [])
    unfold nilC; split <;> first | exact N1.pure _ | exact N1.none
  | x :: xs, l => by
    show N1 fun k => likeC x l fun y l => likeL xs l fun ys => k (y :: ys)
    exact N1.then2 (likeC_N x l) fun y l => N1.then1 (likeL_N xs l) fun _ => N1.pure _
theorem objC_N (o : List AObj) : N2 (objC o) := by unfold objC; split <;> first | exact N2.pure _ _ | exact N2.none
theorem dropC_N (o : List AObj) : N1 (dropC o) := by unfold dropC; split <;> first | exact N1.pure _ | exact N1.none
theorem backO_N : ∀ (x o : List AObj), N2 (backO x o)
  | [], o => N2.pure _ _
  | .cells x :: xs, o => by
    show N2 fun k => objC o fun l o => likeL x l fun y => backO xs o fun ys o => k (.cells y :: ys) o
    exact N2.then2 (objC_N o) fun l o => N2.then1 (likeL_N x l) fun y => N2.then2 (backO_N xs o) fun _ _ => N2.pure _ _
  | .arr _ _ _ _ :: xs, o => by
    show N2 fun k => dropC o fun o => backO xs o fun ys o => k (.dead :: ys) o
    exact N2.then1 (dropC_N o) fun o => N2.then2 (backO_N xs o) fun _ _ => N2.pure _ _
  | .dead :: xs, o => by
    show N2 fun k => dropC o fun o => backO xs o fun ys o => k (.dead :: ys) o
    exact N2.then1 (dropC_N o) fun o => N2.then2 (backO_N xs o) fun _ _ => N2.pure _ _
theorem rInt_N (a : IntKind) (l : List V1) : N2 (rInt a l) := by unfold rInt; split <;> first | exact N2.cond (N2.pure _ _) N2.none | exact N2.none
theorem rBool_N (l : List V1) : N2 (rBool l) := by unfold rBool; split <;> first | exact N2.pure _ _ | exact N2.none
theorem rStr_N (l : List V1) : N2 (rStr l) := by unfold rStr; split <;> first | exact N2.pure _ _ | exact N2.none
theorem rTerm_N (l : List V1) : N2 (rTerm l) := by unfold rTerm; split <;> first | exact N2.pure _ _ | exact N2.none
theorem rOwn_N (j : Nat) (l : List V1) : N1 (rOwn j l) := by unfold rOwn; split <;> first | exact N1.cond (N1.pure _) N1.none | exact N1.none
theorem rPtr_N (j : Nat) (l : List V1) : N1 (rPtr j l) := by unfold rPtr; split <;> first | exact N1.cond (N1.pure _) N1.none | exact N1.none
theorem rSl_N (e : SK) (l : List V1) : N2 (rSl e l) := by
  cases e
  · show N2 fun k => rTs l fun x l => k (SD.ts x) l; refine N2.then2 (g := rTs l) ?_ fun _ _ => N2.pure _ _; unfold rTs; split <;> first | exact N2.pure _ _ | exact N2.none
  · show N2 fun k => rIs l fun x l => k (SD.is x) l; refine N2.then2 (g := rIs l) ?_ fun _ _ => N2.pure _ _; unfold rIs; split <;> first | exact N2.pure _ _ | exact N2.none
  · show N2 fun k => rIss l fun x l => k (SD.iss x) l; refine N2.then2 (g := rIss l) ?_ fun _ _ => N2.pure _ _; unfold rIss; split <;> first | exact N2.pure _ _ | exact N2.none
  · show N2 fun k => rSs l fun x l => k (SD.ss x) l; refine N2.then2 (g := rSs l) ?_ fun _ _ => N2.pure _ _; unfold rSs; split <;> first | exact N2.pure _ _ | exact N2.none
  · show N2 fun k => rBs l fun x l => k (SD.bs x) l; refine N2.then2 (g := rBs l) ?_ fun _ _ => N2.pure _ _; unfold rBs; split <;> first | exact N2.pure _ _ | exact N2.none
theorem arrTsC_N (e : TypeId) (o : List AObj) : N2 (arrTsC e o) := by unfold arrTsC; split <;> first | exact N2.cond (N2.pure _ _) N2.none | exact N2.none
theorem arrC_N (e : TypeId × SK) (o : List AObj) : N2 (arrC e o) := by
  unfold arrC; split
  · exact N2.then2 (arrTsC_N _ _) fun _ _ => N2.pure _ _
  · refine N2.then2 (g := arrIsC e.1 o) ?_ fun _ _ => N2.pure _ _; unfold arrIsC; split <;> first | exact N2.cond (N2.pure _ _) N2.none | exact N2.none
  · refine N2.then2 (g := arrIssC e.1 o) ?_ fun _ _ => N2.pure _ _; unfold arrIssC; split <;> first | exact N2.cond (N2.pure _ _) N2.none | exact N2.none
  · refine N2.then2 (g := arrSsC e.1 o) ?_ fun _ _ => N2.pure _ _; unfold arrSsC; split <;> first | exact N2.cond (N2.pure _ _) N2.none | exact N2.none
  · refine N2.then2 (g := arrBsC e.1 o) ?_ fun _ _ => N2.pure _ _; unfold arrBsC; split <;> first | exact N2.cond (N2.pure _ _) N2.none | exact N2.none
theorem rOwnT_N {α β γ δ : Type} {j : Nat} {l : List V1} {f : Int → Int → List V1 → (α → β → γ → δ → OR) → OR} (hf : ∀ x y z, N4 (f x y z)) : N4 fun k => rOwnT j l fun x y z => f x y z k := by
  unfold rOwnT; split
  · exact N4.cond (hf _ _ _) N4.none
  · exact N4.none
theorem valT_N (own : Bool) (c b : Nat) (t : TypeId) (l : List V1) (o : List AObj) : N4 (valT P own c b t l o) := by
  unfold valT; split
  · exact N4.then2 (rInt_N _ _) fun _ _ => N4.pure _ _ _ _
  · exact N4.then2 (rBool_N _) fun _ _ => N4.pure _ _ _ _
  · exact N4.then2 (rStr_N _) fun _ _ => N4.pure _ _ _ _
  · split
    · exact N4.cond (N4.then1 (rOwn_N _ _) fun _ => N4.then2 (arrC_N _ _) fun _ _ => N4.pure _ _ _ _) (N4.then2 (rSl_N _ _) fun _ _ => N4.pure _ _ _ _)
    · exact N4.none
  · split
    · exact N4.cond (rOwnT_N fun _ _ _ => N4.then2 (arrTsC_N _ _) fun _ _ => N4.pure _ _ _ _) (N4.then2 (rTerm_N _) fun _ _ => N4.pure _ _ _ _)
    · exact N4.none
  · refine N4.then1 (rPtr_N _ _) fun _ => N4.then2 (objC_N _) fun _ _ => ?_
    split
    · exact N4.then1 (likeL_N _ _) fun _ => N4.pure _ _ _ _
    · exact N4.none
  · exact N4.none
theorem valsT_N (own : Bool) : ∀ (ts : List TypeId) (c b : Nat) (l : List V1) (o : List AObj), N2 (valsT P own ts c b l o)
  | [], c, b, l, o => by
    show N2 fun k => nilV l (nilO o (k [] []))
    unfold nilV; split; (unfold nilO; split <;> first | exact N2.pure _ _ | exact N2.none); exact N2.none
  | t :: ts, c, b, l, o => by
    show N2 fun k => valT P own c b t l o fun v n l o => valsT P own ts (c + n.length) (b + n.length) l o fun vs ns => k (v :: vs) (n ++ ns)
    exact N2.then4 (valT_N P own c b t l o) fun v n l o => N2.then2 (valsT_N own ts _ _ l o) fun _ _ => N2.pure _ _
theorem callGo_N (F : Callee) (ow : Bool) (f : FuncId) (tys : List TypeId) (sl rm : Nat) (args : List V1) (h : List AObj) : N2 fun k => callGo P F ow f tys sl rm k args h := by
  unfold callGo
  exact N2.cond (N2.bind fun r => N2.then2 (backO_N _ _) fun os o => N2.then2 (valsT_N P _ _ _ _ _ _) fun vs ns => N2.cond (N2.pure _ _) N2.none) N2.none
theorem callK_N (F : Callee) (D : Dec) (f : FuncId) (args : List V1) (h : List AObj) (sl rm : Nat) : N2 fun k => callK P F D f args h sl rm k := by
  unfold callK; split
  · exact N2.none
  · exact N2.cond (N2.cond (callGo_N P _ _ _ _ _ _ _ _) (N2.then2 (sealVs_N _ _) fun args h => callGo_N P _ _ _ _ _ _ _ _)) N2.none
theorem evBuiltin_N (b : Builtin) (args : List AV) (tys : List TypeId) (h : List AObj) (sl : Nat) : N2 (evBuiltin P b args tys h sl) := by
  unfold evBuiltin; split
  · exact N2.then1 (evLen_N P _ _ _) fun _ => N2.pure _ _
  · exact N2.cond (N2.then2 (evAppend_N P _ _ _ _ _) fun _ _ => N2.pure _ _) N2.none
  · exact N2.then1 (evMax_N _ _ _) fun _ => N2.pure _ _
  · exact N2.then1 (evMax_N _ _ _) fun _ => N2.pure _ _
  · exact N2.none
theorem closure_N (F : Callee) (D : Dec) (o : Oper) (ρ : Operand → AV) (x : Operand) (args : Array Operand) (h : List AObj) (sl : Nat) : N2 fun k => (match ρ x with
      | .v (.one (.fn f l)) => (v1L (args.toList.map ρ)).bind fun vs => callK P F D f (vs ++ l.map fun j => .one (.ptr j 0)) h sl (nObj P D o) k
      | _ => none) := by
  split
  · exact N2.bind fun vs => callK_N P _ _ _ _ _ _ _
  · exact N2.none
theorem evOp_N (F : Callee) (D : Dec) (o : Oper) (ρ : Operand → AV) (h : List AObj) (sl : Nat) : N2 (evOp P F D o ρ h sl) := by
  obtain ⟨dst, op, ty, pos, aft, gd⟩ := o
  show N2 fun k => evOp P F D ⟨dst, op, ty, pos, aft, gd⟩ ρ h sl k
  cases op <;> simp only [evOp]
  case move => exact N2.pure _ _
  case assign => exact N2.pure _ _
  case pick =>
    split
    · exact N2.cond (N2.pure _ _) (N2.pure _ _)
    · exact N2.none
  case alloc => exact N2.bind fun _ => N2.pure _ _
  case box => exact N2.bind fun _ => N2.pure _ _
  case build => exact N2.then1 (evBuild_N P _ _) fun _ => N2.pure _ _
  case buildSlice =>
    split
    · exact N2.cond (N2.bind fun _ => N2.then2 (elemsOf_N _ _ _ _) fun _ _ => N2.pure _ _) N2.none
    · exact N2.none
  case load => exact N2.then1 (evLoad_N P _ _ _) fun _ => N2.pure _ _
  case store => exact N2.then1 (evStore_N P _ _ _ _) fun _ => N2.pure _ _
  case nilCheck => exact N2.then1 (evNil_N _ _) fun _ => N2.pure _ _
  case binOp => exact N2.then1 (evBin_N P _ _ _ _) fun _ => N2.pure _ _
  case unOp => exact N2.then1 (evUn_N _ _) fun _ => N2.pure _ _
  case convert => exact N2.then1 (evConv_N P _ _ _ _) fun _ => N2.pure _ _
  case makeFunc =>
    split
    · exact N2.bind fun _ => N2.pure _ _
    · exact N2.none
  case makeSlice => exact N2.then2 (evMake_N P _ _ _ _ _) fun _ _ => N2.pure _ _
  case slice => exact N2.then2 (evSlice_N P _ _ _ _ _ _) fun _ _ => N2.pure _ _
  case fieldAddr => exact N2.bind fun _ => N2.then1 (evField_N _ _ _) fun _ => N2.pure _ _
  case indexAddr => exact N2.then1 (evIndexAddr_N P _ _ _ _) fun _ => N2.pure _ _
  case index => exact N2.then1 (evIndex_N P _ _ _) fun _ => N2.pure _ _
  case extract => exact N2.then1 (evExtract_N _ _) fun _ => N2.pure _ _
  case call c =>
    obtain ⟨callee, args, tys⟩ := c
    cases callee with
    | builtin bi => exact evBuiltin_N P _ _ _ _ _
    | invoke q m => exact N2.none
    | value f =>
      cases f with
      | func f =>
        refine N2.cond ?_ (N2.bind fun _ => callK_N P _ _ _ _ _ _ _)
        split
        · exact N2.cond (N2.pure _ _) N2.none
        · exact N2.none
      | tmp t => exact closure_N P F D _ ρ _ _ h sl
      | const v => exact closure_N P F D _ ρ _ _ h sl
      | global g => exact closure_N P F D _ ρ _ _ h sl
  all_goals exact N2.none
end
end Go.Ab
