/- The abstract machine, part 5: arithmetic, comparisons, conversions, building values, lengths. -/
import Derived.Test.YthpjicimlandeaaGreatDoorAbAddr
import Derived.Laws.StructEq
set_option linter.unusedVariables false
set_option linter.unusedSimpArgs false
namespace Go.Ab
open Go

/-- Two scalars. -/
def sbin (op : BinOp) (x y : Value) : Option Value :=
  match x, y with
  | .int k a, .int k' b =>
    match op with
    | .shl => if b < 0 then none else some (.int k (k.wrap (a * 2 ^ (min b.toNat k.bits))))
    | .shr => if b < 0 then none else some (.int k (a.fdiv (2 ^ (min b.toNat k.bits))))
    | _ => if k ≠ k' then none else
      match op with
      | .add => some (.int k (k.wrap (a + b)))
      | .sub => some (.int k (k.wrap (a - b)))
      | .mul => some (.int k (k.wrap (a * b)))
      | .quo => if b = 0 then none else some (.int k (k.wrap (a.tdiv b)))
      | .rem => if b = 0 then none else some (.int k (a.tmod b))
      | .and => some (.int k (k.wrap (BitVec.ofInt k.bits a &&& BitVec.ofInt k.bits b).toNat))
      | .or => some (.int k (k.wrap (BitVec.ofInt k.bits a ||| BitVec.ofInt k.bits b).toNat))
      | .xor => some (.int k (k.wrap (BitVec.ofInt k.bits a ^^^ BitVec.ofInt k.bits b).toNat))
      | .andNot => some (.int k (k.wrap (BitVec.ofInt k.bits a &&& ~~~(BitVec.ofInt k.bits b)).toNat))
      | .eql => some (.bool (a == b))
      | .neq => some (.bool (a != b))
      | .lss => some (.bool (a < b))
      | .leq => some (.bool (a ≤ b))
      | .gtr => some (.bool (a > b))
      | .geq => some (.bool (a ≥ b))
      | _ => none
  | .string a, .string b =>
    match op with
    | .add => if ((a.size + b.size : Nat) : Int) > IntKind.i64.max then none else some (.string (a ++ b))
    | .eql => some (.bool (a.toList == b.toList))
    | .neq => some (.bool !(a.toList == b.toList))
    | _ => none
  | _, _ => none

theorem sbin_ok {P : Program} {w : World} {op : BinOp} {t : TypeId} {x y v : Value} {ox oy : Operand} (h : sbin op x y = some v) :
    (do eqGuard op t ox oy x y; binOp op t x y : Sem Value).run P w = .ok v w := by
  unfold sbin at h
  split at h
  · rename_i k a k' b
    have hg : (eqGuard op t ox oy (.int k a) (.int k' b)).run P w = .ok () w := by unfold eqGuard; simp
    simp only [Sem.run_bind, hg, Result.andThen_ok]
    cases op
    case shl =>
      simp only [] at h
      split at h
      · cases h
      · rename_i hh; cases h; simp [binOp, Op.shift, hh]
    case shr =>
      simp only [] at h
      split at h
      · cases h
      · rename_i hh; cases h; simp [binOp, Op.shift, hh]
    all_goals
      simp only [] at h
      split at h
      · cases h
      rename_i hh
      obtain rfl : k = k' := Classical.not_not.1 hh
    case h_1.quo.isFalse =>
      split at h
      · cases h
      · rename_i h0; cases h; simp [binOp, Op.intDiv, h0]
    case h_1.rem.isFalse =>
      split at h
      · cases h
      · rename_i h0; cases h; simp [binOp, Op.intDiv, h0]
    all_goals
      cases h
      simp [binOp, Op.intArith, Op.intBits, Op.intCmp]
  · rename_i a b
    have hg : (eqGuard op t ox oy (.string a) (.string b)).run P w = .ok () w := by unfold eqGuard; simp
    simp only [Sem.run_bind, hg, Result.andThen_ok]
    cases op <;> simp only [] at h <;> first
      | (cases h; done)
      | (cases h; simp [binOp, Op.stringOp]; done)
      | (split at h
         · cases h
         · rename_i hh; cases h; simp only [binOp, Op.stringOp]; rw [if_neg hh]; rfl)
  · cases h

def AV.i64s : List AV → Option (List Int)
  | [] => some []
  | .sc (.int .i64 n) :: cs => match AV.i64s cs with
    | some l => some (n :: l)
    | none => none
  | _ :: _ => none

theorem AV.i64s_ok {G : Ghost} : ∀ {cs : List AV} {l : List Int} {vs : List Value}, AV.i64s cs = some l → Reps G cs vs → vs = l.map (Value.int .i64)
  | [], l, vs, h, hr => by simp [AV.i64s] at h; subst h; rw [hr.nil_inv]; rfl
  | c :: cs, l, vs, h, hr => by
    obtain ⟨v, vs', rfl, h1, h2⟩ := hr.cons_inv
    unfold AV.i64s at h
    split at h
    · rename_i e; cases e
    · rename_i n cs' e
      cases e
      split at h
      · rename_i l' hl
        cases h
        cases h1
        rw [AV.i64s_ok hl h2]; rfl
      · cases h
    · cases h

/-- Is a slice nil? (Of an empty one it is not known.) -/
def AV.isNil : AV → Option Bool
  | .sc (.slice none 0 0) => some true
  | .rs (_ :: _) => some false
  | .ms _ _ _ (_ + 1) => some false
  | _ => none

theorem AV.isNil_ok {G : Ghost} {x : AV} {u : Value} {b : Bool} (h : x.isNil = some b) (hx : Rep G x u) : ∃ a l c, u = .slice a l c ∧ a.isNone = b := by
  unfold AV.isNil at h
  split at h
  · cases h; cases hx; exact ⟨_, _, _, rfl, rfl⟩
  · cases h
    cases hx
    exact ⟨_, _, _, rfl, rfl⟩
  · cases h
    cases hx
    exact ⟨_, _, _, rfl, rfl⟩
  · cases h

theorem run_equalIn_nil {P : Program} (w : World) (d : Nat) (t elem : TypeId) (a : Option Addr) (l c : Nat) (hu : P.underlying t = some (.slice elem)) :
    (Op.equalIn (d + 1) t (.slice a l c) (.slice none 0 0)).run P w = .ok a.isNone w := by
  cases a with
  | none => simp [Op.equalIn, underlying, hu]
  | some a => simp [Op.equalIn, underlying, hu]

def aBin (T : Tab) (op : BinOp) (t : TypeId) (x y : AV) : Option AV :=
  match x, y with
  | x, .sc (.slice none 0 0) =>
    match T t, x.isNil with
    | some { und := .slice _, .. }, some b => match op with
      | .eql => some (.sc (.bool b))
      | .neq => some (.sc (.bool !b))
      | _ => none
    | _, _ => none
  | .sc (.bool a), .sc (.bool b) =>
    match T t with
    | some { und := .bool, .. } => match op with
      | .eql => some (.sc (.bool (a == b)))
      | .neq => some (.sc (.bool !(a == b)))
      | _ => none
    | _ => none
  | .sc a, .sc b => match sbin op a b with
    | some v => some (.sc v)
    | none => none
  | .agg cs, .agg ds =>
    match AV.i64s cs, AV.i64s ds, T t with
    | some as, some bs, some ti => if ti.flat = some as.length ∧ bs.length = as.length then
        match op with
        | .eql => some (.sc (.bool (as == bs)))
        | .neq => some (.sc (.bool !(as == bs)))
        | _ => none
      else none
    | _, _, _ => none
  | _, _ => none

theorem aBin_ok {P : Program} {T : Tab} (hT : TabOk P T) {G : Ghost} {σ : Store} {w : World} (h : Rel G σ w) {op : BinOp} {t : TypeId} {id : Nat} {x y v : AV} {u z : Value} {ox oy : Operand} (hx : Rep G x u) (hy : Rep G y z)
    (ha : aBin T op t x y = some v) : VRes G σ w σ id v ((do eqGuard op t ox oy u z; binOp op t u z : Sem Value).run P w) := by
  unfold aBin at ha
  split at ha
  · cases hy
    split at ha
    · rename_i ht hn
      obtain ⟨a, l, c, rfl, hb⟩ := AV.isNil_ok hn hx
      have hg : (eqGuard op t ox oy (.slice a l c) (.slice none 0 0)).run P w = .ok () w := by unfold eqGuard; simp
      simp only [Sem.run_bind, hg, Result.andThen_ok]
      have hu := hT.und t _ ht
      split at ha
      · cases ha
        simp only [binOp, Op.equal, Op.maxDepth, Sem.run_bind, run_equalIn_nil w 9999 t _ a l c hu, Result.andThen_ok, Sem.run_pure, hb]
        exact VRes.same (.sc _) h
      · cases ha
        simp only [binOp, Op.equal, Op.maxDepth, Sem.run_bind, run_equalIn_nil w 9999 t _ a l c hu, Result.andThen_ok, Sem.run_pure, hb]
        exact VRes.same (.sc _) h
      · cases ha
    · cases ha
  · rename_i a b
    cases hx; cases hy
    have hg : (eqGuard op t ox oy (.bool a) (.bool b)).run P w = .ok () w := by unfold eqGuard; simp
    simp only [Sem.run_bind, hg, Result.andThen_ok]
    split at ha
    · rename_i ht
      have hu := hT.und t _ ht
      split at ha
      · cases ha
        simp only [binOp, Op.equal, Op.maxDepth, Sem.run_bind, run_equalIn_bool' w 9999 t a b hu, Result.andThen_ok, Sem.run_pure]
        exact VRes.same (.sc _) h
      · cases ha
        simp only [binOp, Op.equal, Op.maxDepth, Sem.run_bind, run_equalIn_bool' w 9999 t a b hu, Result.andThen_ok, Sem.run_pure]
        exact VRes.same (.sc _) h
      · cases ha
    · cases ha
  · rename_i a b _
    cases hx; cases hy
    split at ha
    · rename_i v' hv
      cases ha
      rw [sbin_ok hv]
      exact VRes.same (.sc _) h
    · cases ha
  · rename_i cs ds
    split at ha
    · rename_i as bs ti h1 h2 ht
      split at ha
      · rename_i hc
        obtain ⟨hf, hlen⟩ := hc
        obtain ⟨hgt, heq⟩ := hT.flat t ti _ ht hf
        cases hx with
        | agg _ xs hx1 hx2 =>
        cases hy with
        | agg _ ys hy1 hy2 =>
        have e1 := AV.i64s_ok h1 ⟨hx1, hx2⟩
        have e2 := AV.i64s_ok h2 ⟨hy1, hy2⟩
        subst e1 e2
        have hrun := (heq as bs w rfl hlen).1
        have hg : (eqGuard op t ox oy (.agg (as.map (Value.int .i64)).toArray) (.agg (bs.map (Value.int .i64)).toArray)).run P w = .ok () w := by
          unfold eqGuard; simp [hgt]
        simp only [Sem.run_bind, hg, Result.andThen_ok]
        split at ha
        · cases ha
          simp only [binOp, Op.equal, Op.maxDepth, Sem.run_bind, hrun, Result.andThen_ok, Sem.run_pure]
          exact VRes.same (.sc _) h
        · cases ha
          simp only [binOp, Op.equal, Op.maxDepth, Sem.run_bind, hrun, Result.andThen_ok, Sem.run_pure]
          exact VRes.same (.sc _) h
        · cases ha
      · cases ha
    · cases ha
  · cases ha

def aUn (op : UnOp) (x : AV) : Option AV :=
  match op, x with
  | .neg, .sc (.int k n) => some (.sc (.int k (k.wrap (0 - n))))
  | .not, .sc (.bool b) => some (.sc (.bool !b))
  | _, _ => none

theorem aUn_ok {P : Program} {G : Ghost} {σ : Store} {w : World} (h : Rel G σ w) {op : UnOp} {id : Nat} {x v : AV} {u : Value} (hx : Rep G x u) (ha : aUn op x = some v) :
    VRes G σ w σ id v ((Op.unary op u).run P w) := by
  unfold aUn at ha
  split at ha
  · cases ha; cases hx
    simp only [Op.unary, Op.intArith, Sem.run_pure]
    exact VRes.same (.sc _) h
  · cases ha; cases hx
    simp only [Op.unary, Sem.run_pure]
    exact VRes.same (.sc _) h
  · cases ha

def aConv (T : Tab) (src dst : TypeId) (x : AV) : Option AV :=
  match T src, T dst, x with
  | some _, some { und := .int k, .. }, .sc (.int _ n) => some (.sc (.int k (k.wrap n)))
  | _, _, _ => none

theorem aConv_ok {P : Program} {T : Tab} (hT : TabOk P T) {G : Ghost} {σ : Store} {w : World} (h : Rel G σ w) {src dst : TypeId} {id : Nat} {x v : AV} {u : Value} (hx : Rep G x u) (ha : aConv T src dst x = some v) :
    VRes G σ w σ id v ((convert src dst u).run P w) := by
  unfold aConv at ha
  split at ha
  · rename_i si k _ _ _ _ k' n hs hd
    cases ha; cases hx
    simp only [convert, Sem.run_bind, run_und hT hs, run_und hT hd, Result.andThen_ok, Conv.intToInt, Sem.run_pure]
    exact VRes.same (.sc _) h
  · cases ha

def aExtract (x : AV) (i : Nat) : Option AV :=
  match x with
  | .tup vs => vs[i]?
  | _ => none

theorem aExtract_ok {P : Program} {G : Ghost} {σ : Store} {w : World} (h : Rel G σ w) {i id : Nat} {x v : AV} {u : Value} (hx : Rep G x u) (ha : aExtract x i = some v) :
    VRes G σ w σ id v ((Instr.extract u i).run P w) := by
  unfold aExtract at ha
  split at ha
  · cases hx with
    | tup cs vs h1 h2 =>
      obtain ⟨z, hz, hr⟩ := Reps.get (G := G) ⟨h1, h2⟩ ha
      simp only [Instr.extract, List.getElem?_toArray, hz, Sem.run_pure]
      exact VRes.same hr h
  · cases ha

/-- The cells of a struct or an array out of its parts. -/
def afill (place : Nat → Option (Nat × Nat)) (cells : List AV) : List (Nat × AV) → Option (List AV)
  | [] => some cells
  | (i, v) :: rest =>
    match place i, v.cells with
    | some (off, size), some vs => if vs.length = size ∧ off + vs.length ≤ cells.length then afill place (splice cells off vs) rest else none
    | _, _ => none

theorem foldl_put (off : Nat) : ∀ (vs : List Value) (j : Nat) (cs : Array Value), off + j + vs.length ≤ cs.size →
    ((vs.zipIdx j).foldl (fun cs (x : Value × Nat) => cs.setIfInBounds (off + x.2) x.1) cs).toList = cs.toList.take (off + j) ++ vs ++ cs.toList.drop (off + j + vs.length)
  | [], j, cs, _ => by simp
  | v :: vs, j, cs, h => by
    simp only [List.length_cons] at h
    rw [List.zipIdx_cons, List.foldl_cons, foldl_put off vs (j + 1) _ (by simp; omega)]
    have hlt : off + j < cs.toList.length := by simp; omega
    simp only [Array.toList_setIfInBounds]
    rw [List.take_set, List.drop_set, if_pos (by omega)]
    have e1 : List.set (List.take (off + (j + 1)) cs.toList) (off + j) v = List.take (off + j) cs.toList ++ [v] := by
      have hm : min (off + j) cs.toList.length = off + j := by omega
      rw [← Nat.add_assoc, List.take_succ_eq_append_getElem hlt, List.set_append]
      simp only [List.length_take, hm, Nat.lt_irrefl, if_false, Nat.sub_self]
      rfl
    rw [e1]
    simp
    omega

theorem splice_reps {G : Ghost} {cs vs : List AV} {us ys : List Value} (h : Reps G cs us) (hv : Reps G vs ys) (off : Nat) : Reps G (splice cs off vs) (us.take off ++ ys ++ us.drop (off + ys.length)) := by
  unfold splice
  rw [hv.1]
  exact ((h.take off).append hv).append (h.drop _)

theorem afill_ok {G : Ghost} {place : Nat → Option (Nat × Nat)} : ∀ {parts : List (Nat × AV)} {vparts : List (Nat × Value)} {cs out : List AV} {us : Array Value}, Reps G cs us.toList →
    (parts.map (·.1) = vparts.map (·.1)) → Reps G (parts.map (·.2)) (vparts.map (·.2)) → afill place cs parts = some out → ∃ ys : Array Value, Instr.fill place us vparts = some ys ∧ Reps G out ys.toList
  | [], vparts, cs, out, us, h, he, hr, ha => by
    cases vparts with
    | nil => simp [afill] at ha; subst ha; exact ⟨us, rfl, h⟩
    | cons _ _ => simp at he
  | (i, v) :: rest, vparts, cs, out, us, h, he, hr, ha => by
    cases vparts with
    | nil => simp at he
    | cons p vrest =>
      obtain ⟨i', z⟩ := p
      simp only [List.map_cons, List.cons.injEq] at he hr
      obtain ⟨rfl, he⟩ := he
      obtain ⟨z', zs', e, h1, h2⟩ := hr.cons_inv
      simp only [List.cons.injEq] at e
      obtain ⟨rfl, rfl⟩ := e
      unfold afill at ha
      split at ha
      · rename_i off size vs hp hc
        split at ha
        · rename_i hcond
          have hcells := h1.cells hc
          have hL : z.cells.size = vs.length := by have := hcells.1; simpa using this
          have hU : us.size = cs.length := by have := h.1; simpa using this
          have hput : ((z.cells.zipIdx).foldl (fun cs (x : Value × Nat) => cs.setIfInBounds (off + x.2) x.1) us).toList = us.toList.take off ++ z.cells.toList ++ us.toList.drop (off + z.cells.toList.length) := by
            have := foldl_put off z.cells.toList 0 us (by simp; omega)
            simp only [Nat.add_zero] at this
            rw [← this, ← Array.foldl_toList]; simp
          obtain ⟨ys, hy1, hy2⟩ := afill_ok (us := (z.cells.zipIdx).foldl (fun cs (x : Value × Nat) => cs.setIfInBounds (off + x.2) x.1) us) (by rw [hput]; exact splice_reps h hcells off) he h2 ha
          refine ⟨ys, ?_, hy2⟩
          simp only [Instr.fill, hp]
          rw [if_neg (by simp; omega)]
          exact hy1
        · cases ha
      · cases ha

end Go.Ab
