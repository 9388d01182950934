/- The abstract machine, part 39: a tree is gone down with a list of values. -/
import Derived.Test.YthpjicimlandeaaGreatDoorAbUse
set_option linter.unusedVariables false
set_option linter.unusedSimpArgs false
namespace Go.Ab
open Go

def bndO (k : Nat) : Option AV → Bool
  | none => true
  | some x => x.bnd k
def RO.bnd (k : Nat) : RO → Bool
  | .bin _ _ x y => x.bnd k && y.bnd k
  | .un _ x => x.bnd k
  | .conv _ _ x => x.bnd k
  | .pick c a b => c.bnd k && (a.bnd k && b.bnd k)
  | .idx _ x i => x.bnd k && i.bnd k
  | .index _ x i => x.bnd k && i.bnd k
  | .slc _ x lo hi => x.bnd k && (bndO k lo && bndO k hi)
  | .len _ x => x.bnd k
  | .mx l => bndL k l
  | .mn l => bndL k l
  | .cat _ _ x y => x.bnd k && y.bnd k
  | .call _ args _ => bndL k args
  | .rows l => l.all fun j => Nat.blt j k
theorem map_agree {θ θ' : Nat → AV} {k : Nat} (h : ∀ i, i < k → θ' i = θ i) : ∀ l : List AV, bndL k l = true → l.map (AV.sub θ') = l.map (AV.sub θ)
  | [], _ => rfl
  | a :: l, hb => by
    simp only [bndL, Bool.and_eq_true] at hb
    simp only [List.map_cons, sub_agree h a hb.1, map_agree h l hb.2]
theorem mapO_agree {θ θ' : Nat → AV} {k : Nat} (h : ∀ i, i < k → θ' i = θ i) : ∀ l : Option AV, bndO k l = true → l.map (AV.sub θ') = l.map (AV.sub θ)
  | none, _ => rfl
  | some a, hb => by simp only [Option.map_some, sub_agree h a hb]
theorem evalRO_agree {T : Tab} {Φ : Tell} {θ θ' : Nat → AV} {k : Nat} (h : ∀ i, i < k → θ' i = θ i) (o : RO) (hb : o.bnd k = true) : evalRO T Φ θ' o = evalRO T Φ θ o := by
  cases o with
  | bin o t x y => simp only [RO.bnd, Bool.and_eq_true] at hb; simp only [evalRO, sub_agree h _ hb.1, sub_agree h _ hb.2]
  | un o x => simp only [RO.bnd] at hb; simp only [evalRO, sub_agree h _ hb]
  | conv s d x => simp only [RO.bnd] at hb; simp only [evalRO, sub_agree h _ hb]
  | pick c a b => simp only [RO.bnd, Bool.and_eq_true] at hb; simp only [evalRO, sub_agree h _ hb.1, sub_agree h _ hb.2.1, sub_agree h _ hb.2.2]
  | idx t x i => simp only [RO.bnd, Bool.and_eq_true] at hb; simp only [evalRO, sub_agree h _ hb.1, sub_agree h _ hb.2]
  | index t x i => simp only [RO.bnd, Bool.and_eq_true] at hb; simp only [evalRO, sub_agree h _ hb.1, sub_agree h _ hb.2]
  | slc t x lo hi => simp only [RO.bnd, Bool.and_eq_true] at hb; simp only [evalRO, sub_agree h _ hb.1, mapO_agree h _ hb.2.1, mapO_agree h _ hb.2.2]
  | len t x => simp only [RO.bnd] at hb; simp only [evalRO, sub_agree h _ hb]
  | mx l => simp only [RO.bnd] at hb; simp only [evalRO, map_agree h _ hb]
  | mn l => simp only [RO.bnd] at hb; simp only [evalRO, map_agree h _ hb]
  | cat s x a b => simp only [RO.bnd, Bool.and_eq_true] at hb; simp only [evalRO, sub_agree h _ hb.1, sub_agree h _ hb.2]
  | call f args flat => simp only [RO.bnd] at hb; simp only [evalRO, map_agree h _ hb]
  | rows l =>
    simp only [RO.bnd, List.all_eq_true, Nat.blt_eq] at hb
    have e : ∀ g : AV → Bool, l.all (fun j => g (θ' j)) = l.all (fun j => g (θ j)) := fun g => by
      rw [Bool.eq_iff_iff, List.all_eq_true, List.all_eq_true]
      constructor
      · intro H j hj; rw [← h j (hb j hj)]; exact H j hj
      · intro H j hj; rw [h j (hb j hj)]; exact H j hj
    exact congrArg (fun b => match b with | true => some (AV.sc (.bool true)) | false => none) (e (fun v => match v with | .rs _ => true | _ => false))

mutual
/-- How many variables a pattern brings. -/
def AV.top : AV → Nat
  | .sy i => i + 1
  | .rp cs => topL cs
  | .agg cs => topL cs
  | .tup cs => topL cs
  | _ => 0
def topL : List AV → Nat
  | [] => 0
  | c :: cs => max c.top (topL cs)
end
/-- A tree that speaks only of the variables below m. -/
def RT.bnd : RT → Nat → Bool
  | .stuck, _ => true
  | .ret c l, m => c.bnd m && l.all fun j => Nat.blt j m
  | .op o fr pat r, m => Nat.beq fr m && (o.bnd m && (pat.bnd (max m pat.top) && r.bnd (max m pat.top)))
  | .test i a b, m => Nat.blt i m && (a.bnd m && b.bnd m)
  | .loop l _ inits _, m => Nat.beq l m && bndL m inits
  | .again _ vals, m => bndL m vals

theorem Leads.agree {T : Tab} {Φ : Tell} {Q : AV → Prop} : ∀ (r : RT) {m : Nat} {θ θ' : Nat → AV} {A : Nat → List AV → Prop}, r.bnd m = true → Fit θ' → (∀ i, i < m → θ' i = θ i) → Leads T Φ Q r θ A → Leads T Φ Q r θ' A
  | .stuck, _, _, _, _, _, _, _, h => h.elim
  | .ret c l, m, θ, θ', A, hb, hf, ha, h => by
    simp only [RT.bnd, Bool.and_eq_true, List.all_eq_true, Nat.blt_eq] at hb
    refine ⟨fun j hj => ?_, ?_⟩
    · rw [ha j (hb.2 j hj)]; exact h.1 j hj
    · rw [sub_agree ha c hb.1]; exact h.2
  | .op o fr pat r, m, θ, θ', A, hb, hf, ha, ⟨θ1, h1, h2, h3, h4⟩ => by
    simp only [RT.bnd, Bool.and_eq_true, Nat.beq_eq] at hb
    obtain ⟨rfl, hb1, hb2, hb3⟩ := hb
    have hag : ∀ i, i < max fr pat.top → (fun i => if i < fr then θ' i else θ1 i) i = θ1 i := fun i _ => by
      by_cases hi : i < fr
      · simp only [hi, if_true]; rw [ha i hi, h1 i hi]
      · simp only [hi, if_false]
    have hfit : Fit (fun i => if i < fr then θ' i else θ1 i) := fun i => by
      show Fit1 (if i < fr then θ' i else θ1 i)
      split
      · exact hf i
      · exact h2 i
    refine ⟨fun i => if i < fr then θ' i else θ1 i, fun i hi => by simp [hi], hfit, ?_, ?_⟩
    · rw [evalRO_agree ha o hb1, h3, sub_agree hag pat hb2]
    · exact Leads.agree r hb3 hfit hag h4
  | .test i a b, m, θ, θ', A, hb, hf, ha, h => by
    simp only [RT.bnd, Bool.and_eq_true, Nat.blt_eq] at hb
    rcases h with ⟨h1, h2⟩ | ⟨h1, h2⟩
    · exact .inl ⟨by rw [ha i hb.1]; exact h1, Leads.agree a hb.2.1 hf ha h2⟩
    · exact .inr ⟨by rw [ha i hb.1]; exact h1, Leads.agree b hb.2.2 hf ha h2⟩
  | .loop l k inits body, m, θ, θ', A, hb, hf, ha, ⟨I, h1, h2⟩ => by
    simp only [RT.bnd, Bool.and_eq_true, Nat.beq_eq] at hb
    obtain ⟨rfl, hb⟩ := hb
    exact ⟨I, by rw [map_agree ha inits hb]; exact h1, fun n vals hi hl hv θ2 hθ2 => h2 n vals hi hl hv θ2 (fun i hi => by rw [hθ2 i hi, ha i hi])⟩
  | .again l vals, m, θ, θ', A, hb, hf, ha, h => by
    simp only [RT.bnd] at hb
    show A l _
    rw [map_agree ha vals hb]; exact h

/-- Where a tree leads, with a list of values. -/
def LeadsE (T : Tab) (Φ : Tell) (Q : AV → Prop) (r : RT) (L : List AV) (A : Nat → List AV → Prop) : Prop := (∀ v ∈ L, Fit1 v) → Leads T Φ Q r (env L) A

section
variable {T : Tab} {Φ : Tell} {Q : AV → Prop} {L : List AV} {A : Nat → List AV → Prop}
theorem env_lt {L vs : List AV} {i : Nat} (h : i < L.length) : env (L ++ vs) i = env L i := by
  unfold env; rw [List.getElem?_append_left h]
theorem LeadsE.opL {o : RO} {fr : Nat} {pat : AV} {r : RT} (vs : List AV) (he : evalRO T Φ (env L) o = some (pat.sub (env (L ++ vs)))) (hn : L.length = fr) (hv : ∀ v ∈ vs, Fit1 v) (h : LeadsE T Φ Q r (L ++ vs) A) : LeadsE T Φ Q (.op o fr pat r) L A := fun hL => by
  have hall : ∀ v ∈ L ++ vs, Fit1 v := fun v hm => by
    rcases List.mem_append.1 hm with hm | hm
    · exact hL v hm
    · exact hv v hm
  exact ⟨env (L ++ vs), fun i hi => env_lt (by omega), Fit.env hall, he, h hall⟩
theorem LeadsE.op1 {o : RO} {fr : Nat} {r : RT} (v : AV) (he : evalRO T Φ (env L) o = some v) (hn : L.length = fr) (hv : Fit1 v) (h : LeadsE T Φ Q r (L ++ [v]) A) : LeadsE T Φ Q (.op o fr (.sy fr) r) L A :=
  LeadsE.opL [v] (by rw [he, sub_sy]; subst hn; simp [env]) hn (by simpa using hv) h
theorem LeadsE.test {i : Nat} {a b : RT} (t : Bool) (hi : env L i = .sc (.bool t)) (h1 : t = true → LeadsE T Φ Q a L A) (h2 : t = false → LeadsE T Φ Q b L A) : LeadsE T Φ Q (.test i a b) L A := fun hL => by
  cases t with
  | true => exact .inl ⟨hi, h1 rfl hL⟩
  | false => exact .inr ⟨hi, h2 rfl hL⟩
theorem LeadsE.ret {c : AV} (h : Q (c.sub (env L))) : LeadsE T Φ Q (.ret c []) L A := fun _ => ⟨(fun j hj => absurd hj List.not_mem_nil), h⟩
theorem LeadsE.retL {c : AV} {l : List Nat} (hl : ∀ j ∈ l, ∃ es, env L j = .rs es) (h : Q (c.sub (env L))) : LeadsE T Φ Q (.ret c l) L A := fun _ => ⟨hl, h⟩
theorem LeadsE.loop {l k : Nat} {inits : List AV} {body : RT} (I : Nat → List AV → Prop) (hn : L.length = l) (hb : body.bnd (l + k + 1) = true) (n0 : Nat) (h0 : I n0 (inits.map (AV.sub (env L))))
    (h : ∀ n vals pad, I n vals → LeadsE T Φ Q body (L ++ (vals ++ [pad])) (fun l' => if l' = l then (fun vals' => ∃ m, m < n ∧ I m vals') else A l')) : LeadsE T Φ Q (.loop l k inits body) L A := fun hL => by
  refine ⟨I, ⟨n0, h0⟩, fun n vals hi hl hv θ' h1 h2 hf => ?_⟩
  have hall : ∀ v ∈ L ++ (vals ++ [θ' (l + k)]), Fit1 v := fun v hm => by
    rcases List.mem_append.1 hm with hm | hm
    · exact hL v hm
    rcases List.mem_append.1 hm with hm | hm
    · exact hv v hm
    · simp only [List.mem_singleton] at hm; subst hm; exact hf _
  refine Leads.agree body hb hf (fun i hi => ?_) (h n vals (θ' (l + k)) hi hall)
  subst hn
  by_cases c1 : i < L.length
  · rw [env_lt c1]; exact h1 i c1
  · obtain ⟨j, rfl⟩ : ∃ j, i = L.length + j := ⟨i - L.length, by omega⟩
    by_cases c2 : j < vals.length
    · rw [h2 j c2]
      unfold env
      rw [List.getElem?_append_right (by omega), Nat.add_sub_cancel_left, List.getElem?_append_left c2]
      simp [c2]
    · have : j = k := by omega
      subst this
      unfold env
      rw [List.getElem?_append_right (by omega), Nat.add_sub_cancel_left, List.getElem?_append_right (by omega), hl]
      simp
theorem LeadsE.here {l n : Nat} {I : Nat → List AV → Prop} {vals : List AV} (m : Nat) (hm : m < n) (h : I m (vals.map (AV.sub (env L)))) : LeadsE T Φ Q (.again l vals) L (fun l' => if l' = l then (fun vals' => ∃ m, m < n ∧ I m vals') else A l') := fun _ => by
  show (if l = l then (fun vals' => ∃ m, m < n ∧ I m vals') else A l) _
  rw [if_pos rfl]; exact ⟨m, hm, h⟩
theorem LeadsE.there {l l2 : Nat} {J : List AV → Prop} {vals : List AV} (hl : l ≠ l2) (h : LeadsE T Φ Q (.again l vals) L A) : LeadsE T Φ Q (.again l vals) L (fun l' => if l' = l2 then J else A l') := fun hL => by
  show (if l = l2 then J else A l) _
  rw [if_neg hl]; exact h hL
end
theorem runTree_okE {P : Program} {T : Tab} (hT : TabOk P T) {Φ : Tell} (hΦ : TellOk P Φ) {F : FuncId → Option Func} (hF : ∀ f fn, F f = some fn → P.funcs[f]? = some fn) (hm : P.follows .mixedOrders = true) {H : List (Nat × Hint)} {m : Nat} {f : FuncId} {pargs : List AV} {fr : Nat} {tree : RT} (ht : runTree T Φ F H m f pargs fr = tree)
    {L : List AV} (hL : ∀ v ∈ L, Fit1 v) {r : AV} {args : List AV} (ha : args = pargs.map (AV.sub (env L))) (h : LeadsE T Φ (fun c => c = r) tree L (fun _ _ => False)) : MemoOk P ⟨f, args, r⟩ := by
  subst ha; subst ht
  exact runTree_ok hT hΦ hF hm (Fit.env hL) (h hL)
end Go.Ab
