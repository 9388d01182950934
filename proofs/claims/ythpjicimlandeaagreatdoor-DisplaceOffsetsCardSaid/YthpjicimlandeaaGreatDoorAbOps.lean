/- The abstract machine, part 2: the operations on abstract values, each with the law that the model's own operation follows it. -/
import Derived.Test.YthpjicimlandeaaGreatDoorAbBase
import Derived.Laws.Cells
import Derived.Laws.Rows
set_option linter.unusedVariables false
set_option linter.unusedSimpArgs false
namespace Go.Ab
open Go

structure TI where
  und : TypeDesc
  size : Nat
  zero : Value
  bytes : Nat
  flat : Option Nat := none

abbrev Tab := TypeId → Option TI

def TI.isAgg (ti : TI) : Bool := match ti.und with | .struct _ | .array _ _ => true | _ => false

def AV.one : AV → Bool
  | .sc (.agg _) | .sc (.tuple _) | .any | .agg _ | .tup _ => false
  | _ => true

def AV.cells : AV → Option (List AV)
  | .agg cs => some cs
  | .tup _ | .any | .sc (.agg _) | .sc (.tuple _) => none
  | x => some [x]

def AV.ofValue : Value → AV
  | .agg cs => .agg (cs.toList.map .sc)
  | v => .sc v

def TI.zeroCells (ti : TI) : List AV := ti.zero.cells.toList.map .sc

structure TabOk (P : Program) (T : Tab) : Prop where
  und : ∀ t ti, T t = some ti → P.underlying t = some ti.und
  info : ∀ t ti, T t = some ti → ∃ i, P.info? t = some i ∧ i.size = ti.size ∧ i.bytes = ti.bytes ∧ i.zero = some ti.zero
  zlen : ∀ t ti, T t = some ti → ti.zero.cells.size = ti.size
  flat : ∀ t ti n, T t = some ti → ti.flat = some n → P.eqGuardType P.depth t = false ∧ ∀ (as bs : List Int) (w : World), as.length = n → bs.length = n →
    (Op.equalIn 10000 t (.agg (as.map (Value.int .i64)).toArray) (.agg (bs.map (Value.int .i64)).toArray)).run P w = .ok (as == bs) w ∧
    ∀ b, (Instr.checkKey b 10000 t (.agg (as.map (Value.int .i64)).toArray)).run P w = .ok () w

section
variable {P : Program} {T : Tab} (hT : TabOk P T) {t : TypeId} {ti : TI} (h : T t = some ti) (w : World)
include hT h
theorem run_und : (underlying t).run P w = .ok ti.und w := by simp [underlying, hT.und t ti h]
theorem run_size : (sizeOf t).run P w = .ok ti.size w := by
  obtain ⟨i, h1, h2, _⟩ := hT.info t ti h
  simp [sizeOf, typeInfo, h1, h2]
theorem run_zero : (zeroValue t).run P w = .ok ti.zero w := by
  obtain ⟨i, h1, _, _, h4⟩ := hT.info t ti h
  simp [zeroValue, typeInfo, h1, h4]
theorem run_isAgg : (isAgg t).run P w = .ok ti.isAgg w := by
  simp only [isAgg, Sem.run_bind, run_und hT h, Result.andThen_ok, TI.isAgg]
  cases ti.und <;> rfl
theorem run_bytes : ∃ i, (typeInfo t).run P w = .ok i w ∧ i.bytes = ti.bytes := by
  obtain ⟨i, h1, _, h3, _⟩ := hT.info t ti h
  exact ⟨i, by simp [typeInfo, h1], h3⟩
end

theorem Rep.ofValue (G : Ghost) (v : Value) : Rep G (.ofValue v) v := by
  cases v with
  | agg cs =>
    have := Rep.agg (G := G) (cs.toList.map .sc) cs.toList (by simp) (fun i h h' => by simp; exact .sc _)
    simpa [AV.ofValue] using this
  | _ => exact .sc _

theorem Reps.sc (G : Ghost) (vs : List Value) : Reps G (vs.map .sc) vs := ⟨by simp, fun i h h' => by simp; exact .sc _⟩

theorem Rep.cells {G : Ghost} {c : AV} {cs : List AV} {v : Value} (hc : c.cells = some cs) (h : Rep G c v) : Reps G cs v.cells.toList := by
  cases h with
  | agg cs' vs h1 h2 => simp [AV.cells] at hc; subst hc; simp [Value.cells]; exact ⟨h1, h2⟩
  | any => simp [AV.cells] at hc
  | tup => simp [AV.cells] at hc
  | sc v => cases v <;> simp [AV.cells] at hc <;> subst hc <;> exact Reps.cons (.sc _) (.nil _)
  | rsNil => simp [AV.cells] at hc; subst hc; exact Reps.cons .rsNil (.nil _)
  | rs es a cap size val hs hc' hlen himm hrep => simp [AV.cells] at hc; subst hc; exact Reps.cons (.rs es a cap size val hs hc' hlen himm hrep) (.nil _)
  | rp cs' a val hs himm hrep => simp [AV.cells] at hc; subst hc; exact Reps.cons (.rp cs' a val hs himm hrep) (.nil _)
  | ms id size off len p hp hv hz a c ha ho hl hsp => simp [AV.cells] at hc; subst hc; exact Reps.cons (.ms id size off len p hp hv hz a c ha ho hl hsp) (.nil _)
  | msNil id size p hp hv => simp [AV.cells] at hc; subst hc; exact Reps.cons (.msNil id size p hp hv) (.nil _)
  | mp id i j p hp => simp [AV.cells] at hc; subst hc; exact Reps.cons (.mp id i j p hp) (.nil _)
  | mm id p hp => simp [AV.cells] at hc; subst hc; exact Reps.cons (.mm id p hp) (.nil _)
  | it id p hp => simp [AV.cells] at hc; subst hc; exact Reps.cons (.it id p hp) (.nil _)
  | fn f first cap fv cv h1 h2 h3 h4 => simp [AV.cells] at hc; subst hc; exact Reps.cons (.fn f first cap fv cv h1 h2 h3 h4) (.nil _)

theorem Rep.one {G : Ghost} {c : AV} {v : Value} (hc : c.one = true) (h : Rep G c v) : v.oneCell' = true := by
  cases h with
  | sc v => cases v <;> simp [AV.one] at hc <;> rfl
  | _ => first | rfl | simp [AV.one] at hc

/-- What an operation comes to: a value, a store, in a world that holds them; numbers other than 'id' stay free. -/
def VRes (G : Ghost) (σ : Store) (w : World) (σ' : Store) (id : Nat) (v : AV) (r : Result Value) : Prop :=
  ∃ G' u w', G.le G' ∧ (∀ i, i ≠ id → G.pl i = none → G'.pl i = none) ∧ r = .ok u w' ∧ Rep G' v u ∧ Rel G' σ' w' ∧ Fr G σ w G' σ' w'

theorem VRes.same {G : Ghost} {σ : Store} {id : Nat} {v : AV} {u : Value} {w : World} (hr : Rep G v u) (h : Rel G σ w) : VRes G σ w σ id v (.ok u w) :=
  ⟨G, u, w, .refl G, fun _ _ h => h, rfl, hr, h, .refl _ _ _⟩

theorem VRes.place {G : Ghost} {σ σ' : Store} {id : Nat} {v : AV} {u : Value} {w w' : World} {p : Pl} (hid : G.pl id = none) (hr : Rep (G.place id p) v u) (h : Rel (G.place id p) σ' w') (hf : Fr G σ w (G.place id p) σ' w') : VRes G σ w σ' id v (.ok u w') :=
  ⟨G.place id p, u, w', Ghost.place_le hid, fun i hi hg => by simpa [Ghost.place, hi] using hg, rfl, hr, h, hf⟩

theorem VRes.less {G : Ghost} {σ σ1 σ' : Store} {id : Nat} {v : AV} {r : Result Value} {w : World} (hf : ∀ i o, σ1.objs i = some o → σ.objs i = some o) (h : VRes G σ1 w σ' id v r) : VRes G σ w σ' id v r := by
  obtain ⟨G', u, w', h1, h2, h3, h4, h5, h6⟩ := h
  exact ⟨G', u, w', h1, h2, h3, h4, h5, (Fr.less hf).trans h6⟩

/-! ### new variables -/

def newRowObj (t : TypeId) (size : Nat) (es : List (List AV)) : AObj := .row t size es

theorem flat_row {G : Ghost} {cs : List AV} {vs : Array Value} (h : Reps G cs vs.toList) : ∀ i (h : i < [cs].length), ([cs][i]).length = cs.length ∧ ∀ j (hj : j < ([cs][i]).length) (h' : i * cs.length + j < vs.size), Rep G ([cs][i][j]) vs[i * cs.length + j] := by
  intro i hi
  have : i = 0 := by simpa using hi
  subst this
  refine ⟨rfl, fun j hj h' => ?_⟩
  have := h.2 j (by simpa using hj) (by simpa using h')
  simpa using this

theorem newVar_ok {P : Program} {G : Ghost} {σ : Store} {w : World} (h : Rel G σ w) (t : TypeId) (v : Value) (cs : List AV) (hc : Reps G cs v.cells.toList) (id : Nat) (hid : G.pl id = none) (hlt : id < σ.next) :
    VRes G σ w (σ.set id (.row t cs.length [cs])) id (.mp id 0 0) ((do pure (.pointer (some (← newVar t v))) : Sem Value).run P w) := by
  let p : Pl := { block := w.heap.size, size := cs.length, cap := 1 }
  have hr := h.push (.cells v.cells t) id hid hlt p rfl rfl (.row t cs.length [cs]) ⟨v.cells, rfl, rfl, by simpa [p] using hc.1, by simp [p], flat_row (hc.mono (Ghost.place_le hid))⟩
  refine VRes.place (p := p) (w' := { w with heap := w.heap.push (.cells v.cells t) }) hid ?_ hr (Fr.push _ id hid p (fun _ => rfl) _ w.drawn)
  have := Rep.mp (G := G.place id p) id 0 0 p (Ghost.place_same _ _ _)
  simpa [p] using this

def aAlloc (T : Tab) (σ : Store) (id : Nat) (t : TypeId) : Option (AV × Store) :=
  match T t with
  | some ti => some (.mp id 0 0, σ.set id (.row t ti.zeroCells.length [ti.zeroCells]))
  | none => none

theorem aAlloc_ok {P : Program} {T : Tab} (hT : TabOk P T) {G : Ghost} {σ σ' : Store} {w : World} (h : Rel G σ w) {t : TypeId} {id : Nat} {v : AV} (hid : G.pl id = none) (hlt : id < σ.next)
    (ha : aAlloc T σ id t = some (v, σ')) : VRes G σ w σ' id v ((Instr.alloc t true (.tuple #[])).run P w) := by
  unfold aAlloc at ha
  cases ht : T t with
  | none => simp [ht] at ha
  | some ti =>
    simp only [ht, Option.some.injEq, Prod.mk.injEq] at ha
    obtain ⟨rfl, rfl⟩ := ha
    have := newVar_ok (P := P) h t ti.zero ti.zeroCells (Reps.sc G _) id hid hlt
    simpa [Instr.alloc, run_zero hT ht] using this

def aBox (σ : Store) (id : Nat) (t : TypeId) (x : AV) : Option (AV × Store) :=
  match x.cells with
  | some cs => some (.mp id 0 0, σ.set id (.row t cs.length [cs]))
  | none => none

theorem aBox_ok {P : Program} {G : Ghost} {σ σ' : Store} {w : World} (h : Rel G σ w) {t : TypeId} {id : Nat} {x v : AV} {u : Value} (hx : Rep G x u) (hid : G.pl id = none) (hlt : id < σ.next)
    (ha : aBox σ id t x = some (v, σ')) : VRes G σ w σ' id v ((Instr.box t u).run P w) := by
  unfold aBox at ha
  cases hc : x.cells with
  | none => simp [hc] at ha
  | some cs =>
    simp only [hc, Option.some.injEq, Prod.mk.injEq] at ha
    obtain ⟨rfl, rfl⟩ := ha
    exact newVar_ok (P := P) h t u cs (hx.cells hc) id hid hlt

/-! ### loads -/

def cellsLoad (ti : TI) (cs : List AV) (j : Nat) : Option AV :=
  if ti.isAgg then (if j + ti.size ≤ cs.length then some (.agg ((cs.drop j).take ti.size)) else none) else cs[j]?

def aLoad (T : Tab) (σ : Store) (t : TypeId) (x : AV) : Option AV :=
  match x with
  | .mp id i j =>
    match σ.objs id with
    | some (.row _ _ es) => match es[i]? with
      | some cs => match T t with
        | some ti => cellsLoad ti cs j
        | none => none
      | none => none
    | _ => none
  | .rp cs => match T t with
    | some ti => cellsLoad ti cs 0
    | none => none
  | _ => none

theorem add_none (b o n : Nat) : (Addr.add ⟨b, o, none⟩ n) = ⟨b, o + n, none⟩ := by
  unfold Addr.add; split
  · rename_i h; subst h; rfl
  · rfl

theorem cellsLoad_ok {P : Program} {T : Tab} (hT : TabOk P T) {G : Ghost} {w : World} {t : TypeId} {ti : TI} (ht : T t = some ti) (b o : Nat) (cs : List AV) (val : Nat → Value) (j : Nat)
    (hcell : ∀ k, k < cs.length → w.cell? ⟨b, o + k, none⟩ = some (val k)) (hrep : ∀ k (hk : k < cs.length), Rep G cs[k] (val k)) {v : AV} (hl : cellsLoad ti cs j = some v) :
    ∃ u, (loadVar t ⟨b, o + j, none⟩).run P w = .ok u w ∧ Rep G v u := by
  unfold cellsLoad at hl
  by_cases ha : ti.isAgg = true
  · rw [if_pos ha] at hl
    split at hl
    · rename_i hlen
      cases hl
      have hload := run_loadCells (P := P) w ⟨b, o + j, none⟩ ti.size (fun k => val (j + k)) (fun k hk => by rw [add_none, Nat.add_assoc]; exact hcell _ (by omega))
      refine ⟨_, by simp only [loadVar, Sem.run_bind, run_isAgg hT ht, ha, if_true, run_size hT ht, hload, Result.andThen_ok, Sem.run_pure]; rfl, ?_⟩
      have := Rep.agg (G := G) ((cs.drop j).take ti.size) ((List.range ti.size).map fun k => val (j + k)) (by simp; omega) (fun i h h' => by
        simp at h h'
        have := hrep (j + i) (by omega)
        simpa using this)
      simpa using this
    · cases hl
  · rw [if_neg ha] at hl
    obtain ⟨hj, rfl⟩ := List.getElem?_eq_some_iff.1 hl
    refine ⟨val j, ?_, hrep j hj⟩
    simp only [loadVar, Sem.run_bind, run_isAgg hT ht, Bool.not_eq_true _ ▸ ha, Result.andThen_ok]
    simp [run_load, hcell j hj]

theorem aLoad_ok {P : Program} {T : Tab} (hT : TabOk P T) {G : Ghost} {σ : Store} {w : World} (h : Rel G σ w) {t : TypeId} {id : Nat} {x v : AV} {u : Value} (hx : Rep G x u)
    (ha : aLoad T σ t x = some v) : VRes G σ w σ id v ((Instr.loadAt t u).run P w) := by
  cases hx with
  | mp id' i j p hp =>
    simp only [aLoad] at ha
    cases ho : σ.objs id' with
    | none => simp [ho] at ha
    | some o =>
      cases o with
      | row elem size es =>
        simp only [ho] at ha
        cases he : es[i]? with
        | none => simp [he] at ha
        | some cs =>
          simp only [he] at ha
          cases ht : T t with
          | none => simp [ht] at ha
          | some ti =>
            simp only [ht] at ha
            obtain ⟨hi, hie⟩ := List.getElem?_eq_some_iff.1 he
            have hv : p.virt = false := by
              rcases h.lies ho hp with ⟨_, e, s, h2⟩ | ⟨h2, _⟩
              · cases h2; simp at hi
              · exact h2
            obtain ⟨_, _, cells, hb, hs, hn, hle, hrow⟩ := h.real ho hp hv
            obtain ⟨hlen, hrow2⟩ := hrow i hi
            rw [hie] at hlen
            have hbound : ∀ k, k < cs.length → i * size + k < cells.size := fun k hk => by
              rw [hn]
              have : (i + 1) * size ≤ p.cap * size := Nat.mul_le_mul_right _ (by omega)
              rw [Nat.add_mul] at this; omega
            have := cellsLoad_ok hT ht (P := P) (G := G) (w := w) p.block (i * p.size) cs (fun k => cells.getD (i * size + k) default) j
              (fun k hk => by
                rw [cell_of_row w _ _ cells elem _ hb, hs]
                have := hbound k hk
                simp [this]) (fun k hk => by
                have h3 := hrow2 k (by rw [hie]; exact hk) (hbound k hk)
                have := hbound k hk
                simp only [hie] at h3
                simpa [this] using h3) ha
            obtain ⟨u, hu, hr⟩ := this
            have q := VRes.same (id := id) (u := u) hr h
            simp only [Instr.loadAt, Instr.sureAddr, Sem.run_bind, Sem.run_pure, Result.andThen_ok, hu]
            exact q
      | _ => simp [ho] at ha
  | rp cs a val hs himm hrep =>
    simp only [aLoad] at ha
    cases ht : T t with
    | none => simp [ht] at ha
    | some ti =>
      simp only [ht] at ha
      obtain ⟨b, o, s⟩ := a
      simp at hs; subst hs
      obtain ⟨u, hu, hr⟩ := cellsLoad_ok hT ht (P := P) (G := G) (w := w) b o cs val 0 (fun k hk => h.cell (himm k hk)) hrep ha
      have q := VRes.same (id := id) (u := u) hr h
      simp only [Instr.loadAt, Instr.sureAddr, Sem.run_bind, Sem.run_pure, Result.andThen_ok]
      rw [Nat.add_zero] at hu
      rw [hu]; exact q
  | _ => simp [aLoad] at ha

end Go.Ab
