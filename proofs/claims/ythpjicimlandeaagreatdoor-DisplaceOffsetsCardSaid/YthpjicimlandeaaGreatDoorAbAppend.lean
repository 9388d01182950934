/- The abstract machine, part 8: append. -/
import Derived.Test.YthpjicimlandeaaGreatDoorAbMake
set_option linter.unusedVariables false
set_option linter.unusedSimpArgs false
namespace Go.Ab
open Go

def TI.isInt (ti : TI) : Bool := match ti.und with | .int _ => true | _ => false

/-- The slice that is appended to: its number, its elements. -/
def baseOf (σ : Store) (elem : TypeId) (size : Nat) : AV → Option (Option Nat × List (List AV))
  | .ms id _ 0 len => match σ.objs id with
    | some (.row e sz es) => if len = es.length ∧ sz = size ∧ e = elem then some (some id, es) else none
    | _ => none
  | .sc (.slice none 0 0) => some (none, [])
  | _ => none

def aAppend (T : Tab) (σ : Store) (id : Nat) (sT xT : TypeId) (s x : AV) : Option (AV × Store) :=
  match T sT, T xT with
  | some { und := .slice elem, .. }, some xi =>
    match T elem with
    | some ei =>
      match baseOf σ elem ei.size s, srcOf σ x with
      | some (old, es), some xs =>
        if xi.isInt = false ∧ (xs.all fun c => c.length == ei.size && c.all AV.one) = true ∧ (2 * (es.length + xs.length) + 1000) * ei.bytes ≤ 2 ^ 48 ∧ es.length + xs.length ≤ 2 ^ 62 ∧ 0 < ei.size then
          some (.ms id ei.size 0 (es.length + xs.length), (match old with | some i => σ.del i | none => σ).set id (.row elem ei.size (es ++ xs)))
        else none
      | _, _ => none
    | none => none
  | _, _ => none

theorem growBy_le (n : Nat) : ∀ (r c : Nat), c ≤ 2 * n + 192 → Builtin.growBy n r c ≤ 2 * n + 192
  | 0, c, h => by simpa [Builtin.growBy] using h
  | r + 1, c, h => by
    unfold Builtin.growBy
    split
    · exact h
    · exact growBy_le n r _ (by omega)

theorem nextcap_le {n c : Nat} (h : c < n) : Builtin.nextslicecap n c ≤ 2 * n + 192 := by
  unfold Builtin.nextslicecap
  split
  · omega
  · split
    · omega
    · exact growBy_le n 4 c (by omega)

theorem run_append_room {P : Program} {T : Tab} (hT : TabOk P T) {w : World} {sT xT elem : TypeId} {st xi ei : TI} (hs : T sT = some st) (hu : st.und = .slice elem) (hx : T xT = some xi) (hi : xi.isInt = false) (he : T elem = some ei)
    (base : Option Addr) (sLen sCap n : Nat) (xa : Option Addr) (xc : Nat) (vs : Array Value) (hload : (Builtin.firstCells ei.size n (.slice xa n xc)).run P w = .ok vs w) (hroom : sLen + n ≤ sCap) (ty : TypeId) :
    (Builtin.append_ #[sT, xT] ty #[.slice base sLen sCap, .slice xa n xc]).run P w =
      (((match base with | some a => storeCells (a.add (sLen * ei.size)) vs.toList | none => pure ()) : Sem Unit).run P w).andThen (fun _ w' => .ok (.slice base (sLen + n) sCap) w') := by
  have hz : ((match xi.und with | .int _ => true | _ => false) : Bool) = false := hi
  have hund : (underlying sT).run P w = .ok (.slice elem) w := by rw [run_und hT hs, hu]
  unfold Builtin.append_
  simp only [List.getElem?_toArray, List.getElem?_cons_zero, List.getElem?_cons_succ, Sem.run_bind, hund, Result.andThen_ok, run_size hT he, run_und hT hx, Sem.run_pure]
  cases hxu : xi.und <;> simp only [TI.isInt, hxu] at hi <;> first
    | (cases hi; done)
    | (simp only [Bool.false_eq_true, if_false, Builtin.lenOf, Sem.run_bind, Sem.run_pure, Result.andThen_ok, hroom, if_true, Bool.not_false, hload]
       cases base <;> simp)


theorem run_append_grow {P : Program} {T : Tab} (hT : TabOk P T) {w : World} {sT xT elem : TypeId} {st xi ei : TI} (hs : T sT = some st) (hu : st.und = .slice elem) (hx : T xT = some xi) (hi : xi.isInt = false) (he : T elem = some ei)
    (base : Option Addr) (sLen sCap n : Nat) (xa : Option Addr) (xc : Nat) (us vs : Array Value)
    (hold : ∀ k, (Builtin.firstCells ei.size sLen (.slice base sLen sCap)).run P { w with drawn := k } = .ok us { w with drawn := k })
    (hload : ∀ k, (Builtin.firstCells ei.size n (.slice xa n xc)).run P { w with drawn := k } = .ok vs { w with drawn := k })
    (hroom : sCap < sLen + n) (hb : (2 * (sLen + n) + 1000) * ei.bytes ≤ 2 ^ 48) (hN : sLen + n ≤ 2 ^ 62) (ty : TypeId) :
    ∃ newCap, sLen + n ≤ newCap ∧ (Builtin.append_ #[sT, xT] ty #[.slice base sLen sCap, .slice xa n xc]).run P w =
      .ok (.slice (some ⟨w.heap.size, 0, none⟩) (sLen + n) newCap) { w with drawn := w.drawn + 1, heap := w.heap.push (.cells (us ++ vs ++ Builtin.zeroCells ei.zero.cells (newCap - (sLen + n))) elem) } := by
  have hund : ∀ k, (underlying sT).run P { w with drawn := k } = .ok (.slice elem) { w with drawn := k } := fun k => by rw [run_und hT hs, hu]
  obtain ⟨i, hi1, hi2⟩ := run_bytes hT he w
  have hi1' : ∀ w', (typeInfo elem).run P w' = .ok i w' := fun w' => by
    obtain ⟨j, hj, _⟩ := hT.info elem ei he
    have : (typeInfo elem).run P w = .ok j w := by simp [typeInfo, hj]
    rw [this] at hi1; cases hi1
    simp [typeInfo, hj]
  have hcap := nextcap_le hroom
  have hsmall : ¬ (Builtin.nextslicecap (sLen + n) sCap * i.bytes > 2 ^ 48) := by
    rw [hi2]
    have : Builtin.nextslicecap (sLen + n) sCap * ei.bytes ≤ (2 * (sLen + n) + 1000) * ei.bytes := Nat.mul_le_mul_right _ (by omega)
    omega
  refine ⟨(Question.appendCap (sLen + n) sCap elem).cut (w.tape w.drawn (.appendCap (sLen + n) sCap elem)), by simp only [Question.cut]; omega, ?_⟩
  have h0 := hund w.drawn
  have hl1 := hold (w.drawn + 1)
  have hl2 := hload (w.drawn + 1)
  have hmax : ¬ (((sLen + n : Nat) : Int) > IntKind.i64.max ∧ (False ∨ i.bytes = 0)) := by
    have : IntKind.i64.max = 9223372036854775807 := by decide
    rw [this]; omega
  unfold Builtin.append_
  simp only [List.getElem?_toArray, List.getElem?_cons_zero, List.getElem?_cons_succ, Sem.run_bind, h0, Result.andThen_ok, run_size hT he, run_und hT hx, Sem.run_pure]
  cases hxu : xi.und <;> simp only [TI.isInt, hxu] at hi <;> first
    | (cases hi; done)
    | (simp only [Bool.false_eq_true, if_false, Builtin.lenOf, Sem.run_bind, Sem.run_pure, Result.andThen_ok, if_neg (Nat.not_le.2 hroom), Bool.not_false, if_true, hi1', if_neg hmax, if_neg hsmall, run_choose, Question.forced, run_askRoom, hl1, hl2, run_zero hT he, newRow, run_newObj])

theorem loadCellsFrom_drawn {P : Program} (w : World) (k : Nat) (a : Addr) : ∀ (n i : Nat) (acc vs : Array Value), (loadCellsFrom a i n acc).run P w = .ok vs w → (loadCellsFrom a i n acc).run P { w with drawn := k } = .ok vs { w with drawn := k }
  | 0, i, acc, vs, h => by simp [loadCellsFrom] at h ⊢; exact h
  | n + 1, i, acc, vs, h => by
    simp only [loadCellsFrom, Sem.run_bind, run_load] at h ⊢
    have hc : ({ w with drawn := k } : World).cell? (a.add i) = w.cell? (a.add i) := rfl
    rw [hc]
    cases hw : w.cell? (a.add i) with
    | some v =>
      simp only [hw, Result.andThen_ok] at h ⊢
      exact loadCellsFrom_drawn w k a n (i + 1) _ vs h
    | none =>
      simp only [hw] at h ⊢
      have hf : ({ w with drawn := k } : World).farLoad P (a.add i) (Mode.plain == .atomic) = w.farLoad P (a.add i) (Mode.plain == .atomic) := rfl
      rw [hf]
      cases hq : w.farLoad P (a.add i) (Mode.plain == .atomic) with
      | ok r =>
        obtain ⟨v, l⟩ := r
        simp only [hq, Result.andThen_ok] at h ⊢
        exact loadCellsFrom_drawn w k a n (i + 1) _ vs h
      | error e => simp [hq] at h

theorem loadCells_drawn {P : Program} (w : World) (k : Nat) (a : Addr) (n : Nat) (vs : Array Value) (h : (loadCells a n).run P w = .ok vs w) : (loadCells a n).run P { w with drawn := k } = .ok vs { w with drawn := k } :=
  loadCellsFrom_drawn w k a n 0 #[] vs h

theorem del_some {σ : Store} {i k : Nat} {o : AObj} (h : (σ.del i).objs k = some o) : σ.objs k = some o := by
  rw [Store.objs_del] at h
  split at h
  · cases h
  · exact h

theorem zeroCells_size (zero : Array Value) (n : Nat) : (Builtin.zeroCells zero n).size = n * zero.size := by simp [Builtin.zeroCells]

theorem append_grow_ok {P : Program} {T : Tab} (hT : TabOk P T) {G : Ghost} {σ : Store} {w : World} (h : Rel G σ w) {elem : TypeId} {ei : TI} (he : T elem = some ei) {id : Nat} (hid : G.pl id = none) (hlt : id < σ.next)
    {es xs : List (List AV)} (hes : ∀ c ∈ es, c.length = ei.size) (hxs : ∀ c ∈ xs, c.length = ei.size) {us vs : List Value} (hu : Reps G es.flatten us) (hv : Reps G xs.flatten vs) {newCap : Nat} (hc : es.length + xs.length ≤ newCap) :
    VRes G σ w (σ.set id (.row elem ei.size (es ++ xs))) id (.ms id ei.size 0 (es.length + xs.length)) (.ok (.slice (some ⟨w.heap.size, 0, none⟩) (es.length + xs.length) newCap)
      { w with drawn := w.drawn + 1, heap := w.heap.push (.cells (us.toArray ++ vs.toArray ++ Builtin.zeroCells ei.zero.cells (newCap - (es.length + xs.length))) elem) }) := by
  have hall : ∀ c ∈ es ++ xs, c.length = ei.size := fun c hc => by
    rcases List.mem_append.1 hc with h1 | h1
    · exact hes c h1
    · exact hxs c h1
  have hul : us.length = es.length * ei.size := by rw [hu.1, flatten_length hes]
  have hvl : vs.length = xs.length * ei.size := by rw [hv.1, flatten_length hxs]
  have hz := hT.zlen elem ei he
  obtain ⟨p, hp1, hp2, hp3, hp4, hrel⟩ := newRow_ok (P := P) (h.drawn (w.drawn + 1)) elem (us.toArray ++ vs.toArray ++ Builtin.zeroCells ei.zero.cells (newCap - (es.length + xs.length))) (es ++ xs) ei.size newCap hall
    (vs := us ++ vs) (by rw [List.flatten_append]; exact hu.append hv) (fun k v hk => by
      obtain ⟨hk1, _⟩ := List.getElem?_eq_some_iff.1 hk
      rw [Array.getElem?_append, if_pos (by simpa using hk1)]
      simpa using hk) (by
      simp [zeroCells_size, hz, hul, hvl]
      rw [← Nat.add_mul, ← Nat.add_mul]; congr 1; omega) (by simp; omega) id hid hlt
  refine VRes.place (p := p) hid ?_ hrel (Fr.push (w := w) _ id hid p (fun _ => hp1) _ (w.drawn + 1))
  exact .ms id _ 0 _ p (Ghost.place_same _ _ _) hp4 hp2 _ newCap (fun _ => by rw [hp1]; simp) (by rw [hp3]; simp) hc rfl

theorem aAppend_ok {P : Program} {T : Tab} (hT : TabOk P T) {G : Ghost} {σ σ' : Store} {w : World} (h : Rel G σ w) {sT xT ty : TypeId} {id : Nat} {s x v : AV} {u y : Value} (hs : Rep G s u) (hx : Rep G x y)
    (hid : G.pl id = none) (hlt : id < σ.next) (ha : aAppend T σ id sT xT s x = some (v, σ')) : VRes G σ w σ' id v ((Builtin.append_ #[sT, xT] ty #[u, y]).run P w) := by
  unfold aAppend at ha
  split at ha
  · rename_i elem z1 z2 z3 z4 xi hsT hxT
    split at ha
    · rename_i ei hei
      split at ha
      · rename_i old es xs hbase hsrc
        split at ha
        · rename_i hcond
          obtain ⟨hint, hallB, hbytes, hN, hpos⟩ := hcond
          have hxs : ∀ c ∈ xs, c.length = ei.size ∧ c.all AV.one = true := fun c hc => by
            have := List.all_eq_true.1 hallB c hc
            simpa using this
          have hxl : ∀ c ∈ xs, c.length = ei.size := fun c hc => (hxs c hc).1
          obtain ⟨⟨xa, xc, rfl⟩, vs, hload, hvs⟩ := src_ok (P := P) h hx hsrc ei.size hxl
          have hload' : ∀ k, (Builtin.firstCells ei.size xs.length (.slice xa xs.length xc)).run P { w with drawn := k } = .ok vs.toArray { w with drawn := k } := fun k => by
            obtain ⟨_, vs', hl', hv'⟩ := src_ok (P := P) (h.drawn k) hx hsrc ei.size hxl
            rw [hl']
            have := hload
            have e : vs' = vs := by
              have hd : (Builtin.firstCells ei.size xs.length (.slice xa xs.length xc)).run P { w with drawn := w.drawn } = .ok vs.toArray w := hload
              cases xa with
              | none =>
                simp [Builtin.firstCells] at hl' hload
                have e1 : vs' = [] := by simpa using hl'.symm
                have e2 : vs = [] := by simpa using hload.symm
                rw [e1, e2]
              | some a =>
                simp only [Builtin.firstCells] at hl' hload
                have key := loadCells_drawn (P := P) w k a (xs.length * ei.size) vs.toArray hload
                rw [key] at hl'
                simpa using hl'.symm
            rw [e]
          simp only [Option.some.injEq, Prod.mk.injEq] at ha
          obtain ⟨rfl, rfl⟩ := ha
          unfold baseOf at hbase
          split at hbase
          · rename_i i _ len
            split at hbase
            · rename_i e' sz es1 ho
              split at hbase
              · rename_i hc
                obtain ⟨hlen, rfl, hel⟩ := hc
                subst hel
                cases hbase
                cases hs with
                | msNil _ _ p hp hv =>
                  have hes0 : es = [] := by
                    rcases h.lies ho hp with ⟨_, _, _, e2⟩ | ⟨e2, _⟩
                    · cases e2; rfl
                    · rw [hv] at e2; cases e2
                  subst hes0
                  simp only [List.length_nil, Nat.zero_add, List.nil_append]
                  by_cases hx0 : xs = []
                  · subst hx0
                    have hroom := run_append_room hT (w := w) hsT rfl hxT hint hei none 0 0 0 xa xc vs.toArray (by simpa using hload) (by omega) ty
                    simp only [List.length_nil]
                    rw [hroom]
                    simp only [Sem.run_pure, Result.andThen_ok]
                    exact VRes.place (p := p) hid (.msNil id _ p (Ghost.place_same _ _ _) hv) (h.move ho hp hid hlt) (Fr.move ho hp)
                  · have hpos' : 0 < xs.length := List.length_pos_iff.2 hx0
                    obtain ⟨newCap, hcap, hrun⟩ := run_append_grow hT (w := w) hsT rfl hxT hint hei none 0 0 xs.length xa xc #[] vs.toArray (fun k => by simp [Builtin.firstCells]) hload' (by omega) (by simpa using hbytes) (by simpa using hN) ty
                    rw [hrun]
                    have hr2 : Rel G (σ.del i) w := h.less rfl (fun k o hk => del_some hk)
                    have := append_grow_ok hT hr2 hei hid hlt (es := []) (by simp) hxl (.nil G) hvs (newCap := newCap) (by simpa using hcap)
                    refine VRes.less (σ1 := σ.del i) (fun k o hk => del_some hk) ?_
                    simpa using this
                | ms _ _ _ _ p hp hv hz a c hA hoff hlc hsp =>
                  subst hlen
                  obtain ⟨him, hw0, cells, hb, hps, hn, hcap, hrow⟩ := h.real ho hp hv
                  have hes : ∀ c ∈ es, c.length = ei.size := fun c hc => by obtain ⟨k, hk, rfl⟩ := List.getElem_of_mem hc; exact (hrow k hk).1
                  by_cases hroom : es.length + xs.length ≤ c
                  · rw [run_append_room hT (w := w) hsT rfl hxT hint hei (some a) es.length c xs.length xa xc vs.toArray hload hroom ty]
                    by_cases hx0 : xs = []
                    · subst hx0
                      have hv0 : vs = [] := by have := hvs.1; simpa using this
                      subst hv0
                      simp only [storeCells, Sem.run_pure, Result.andThen_ok, List.length_nil, Nat.add_zero, List.append_nil]
                      exact VRes.place (p := p) hid (.ms id _ 0 _ p (Ghost.place_same _ _ _) hv hps a c hA hoff hlc hsp) (h.move ho hp hid hlt) (Fr.move ho hp)
                    · have hpos' : 0 < xs.length := List.length_pos_iff.2 hx0
                      have hvl : vs.length = xs.length * ei.size := by rw [hvs.1, flatten_length hxl]
                      rw [hA (by omega), hps]
                      have hbig : es.length * ei.size + xs.length * ei.size ≤ cells.size := by
                        rw [hn, ← Nat.add_mul]; exact Nat.mul_le_mul_right _ (by omega)
                      obtain ⟨cs', hrun, hsz, hget⟩ := run_storeCells_row (P := P) p.block (es.length * ei.size) e' vs 0 cells w hb (by rw [hvl]; omega) (fun z hz => by
                        obtain ⟨k, hk, rfl⟩ := List.getElem_of_mem hz
                        have hk' : k < xs.flatten.length := by rw [← hvs.1]; exact hk
                        refine (hvs.2 k hk' hk).one ?_
                        obtain ⟨c, hc1, hc2⟩ := List.mem_flatten.1 (List.getElem_mem hk')
                        exact List.all_eq_true.1 (hxs c hc1).2 _ hc2)
                      simp only [Nat.zero_mul, add_none, Nat.zero_add, hrun, Result.andThen_ok]
                      have hall : ∀ c ∈ es ++ xs, c.length = ei.size := fun c hc => by
                        rcases List.mem_append.1 hc with h1 | h1
                        · exact hes c h1
                        · exact hxl c h1
                      have hflat := flat_of_row hrow (by omega)
                      have hreps : Reps G (es ++ xs).flatten (cells.toList.take (es.length * ei.size) ++ vs) := by rw [List.flatten_append]; exact hflat.append hvs
                      have hw' := h.write (o' := .row e' ei.size (es ++ xs)) ho hp hv (.cells cs' e' (0, 0)) (setBlk w p.block (.cells cs' e' (0, 0))) rfl rfl rfl (setBlk_size _ _ _) (fun k hk => setBlk_other _ _ _ _ hk)
                        (setBlk_same _ _ _ _ hb) ⟨cs', rfl, hps, by rw [hsz, hn], by simp; omega, row_of_flat hall hreps (fun k z hk => by
                          have hg := hget k
                          simp only [Nat.add_zero] at hg
                          rw [hg]
                          have hmin : (cells.toList.take (es.length * ei.size)).length = es.length * ei.size := by simp; omega
                          rw [List.getElem?_append, hmin] at hk
                          split at hk
                          · rename_i hk1
                            rw [if_neg (by omega)]
                            rw [List.getElem?_take, if_pos hk1] at hk
                            simpa using hk
                          · rename_i hk1
                            obtain ⟨hk2, _⟩ := List.getElem?_eq_some_iff.1 hk
                            rw [if_pos (by omega)]
                            exact hk)⟩
                      have hm := hw'.move (id := i) (id' := id) (o := .row e' ei.size (es ++ xs)) (p := p) (by simp [Store.objs_set]) hp hid hlt
                      have hless : ∀ k o, ((σ.del i).set id (.row e' ei.size (es ++ xs))).objs k = some o → (((σ.set i (.row e' ei.size (es ++ xs))).del i).set id (.row e' ei.size (es ++ xs))).objs k = some o := (fun k o hk => by
                        rw [Store.objs_set, Store.objs_del] at hk ⊢
                        by_cases q : k = id
                        · simpa [q] using hk
                        · by_cases q2 : k = i
                          · subst q2; simp [q] at hk
                          · simpa [q, q2, Store.objs_set] using hk)
                      have hm2 : Rel (G.place id p) ((σ.del i).set id (.row e' ei.size (es ++ xs))) (setBlk w p.block (.cells cs' e' (0, 0))) := hm.less rfl hless
                      have hfw : Fr G σ w G (σ.set i (.row e' ei.size (es ++ xs))) (setBlk w p.block (.cells cs' e' (0, 0))) := Fr.write ho hp hv _ (setBlk_size _ _ _) (fun k hk => setBlk_other _ _ _ _ hk)
                      have hfm : Fr G (σ.set i (.row e' ei.size (es ++ xs))) (setBlk w p.block (.cells cs' e' (0, 0))) (G.place id p) (((σ.set i (.row e' ei.size (es ++ xs))).del i).set id (.row e' ei.size (es ++ xs))) (setBlk w p.block (.cells cs' e' (0, 0))) := Fr.move (id := i) (o := .row e' ei.size (es ++ xs)) (by simp [Store.objs_set]) hp
                      exact VRes.place (p := p) hid (.ms id _ 0 _ p (Ghost.place_same _ _ _) hv hps _ c (fun _ => by simp) (by omega) hroom rfl) hm2 (hfw.trans (hfm.trans (Fr.less hless)))
                  · have hnr : c < es.length + xs.length := by omega
                    have hflat := flat_of_row hrow (by rw [hn]; exact Nat.mul_le_mul_right _ hcap)
                    have hsrc2 : srcOf σ (.ms i ei.size 0 es.length) = some es := by simp [srcOf, ho]
                    have hrs : Rep G (.ms i ei.size 0 es.length) (.slice (some a) es.length c) := .ms _ _ _ _ p hp hv hps a c hA hoff hlc hsp
                    obtain ⟨_, us, hold, hus⟩ := src_ok (P := P) h hrs hsrc2 ei.size hes
                    have hold' : ∀ k, (Builtin.firstCells ei.size es.length (.slice (some a) es.length c)).run P { w with drawn := k } = .ok us.toArray { w with drawn := k } := fun k => by
                      simp only [Builtin.firstCells] at hold ⊢
                      exact loadCells_drawn (P := P) w k a _ _ hold
                    obtain ⟨newCap, hcap2, hrun⟩ := run_append_grow hT (w := w) hsT rfl hxT hint hei (some a) es.length c xs.length xa xc us.toArray vs.toArray hold' hload' hnr hbytes hN ty
                    rw [hrun]
                    have hr2 : Rel G (σ.del i) w := h.less rfl (fun k o hk => del_some hk)
                    exact VRes.less (σ1 := σ.del i) (fun k o hk => del_some hk) (append_grow_ok hT hr2 hei hid hlt hes hxl hus hvs hcap2)
              · cases hbase
            · cases hbase
          · cases hbase
            cases hs
            simp only [List.length_nil, Nat.zero_add, List.nil_append]
            by_cases hx0 : xs = []
            · subst hx0
              have hroom := run_append_room hT (w := w) hsT rfl hxT hint hei none 0 0 0 xa xc vs.toArray (by simpa using hload) (by omega) ty
              simp only [List.length_nil]
              rw [hroom]
              simp only [Sem.run_pure, Result.andThen_ok]
              exact VRes.place (p := { block := 0, size := 0, cap := 0, virt := true }) hid (.msNil id _ _ (Ghost.place_same _ _ _) rfl) (h.virt id hid hlt _ rfl elem ei.size) (Fr.virt id _ rfl _)
            · have hpos' : 0 < xs.length := List.length_pos_iff.2 hx0
              obtain ⟨newCap, hcap, hrun⟩ := run_append_grow hT (w := w) hsT rfl hxT hint hei none 0 0 xs.length xa xc #[] vs.toArray (fun k => by simp [Builtin.firstCells]) hload' (by omega) (by simpa using hbytes) (by simpa using hN) ty
              rw [hrun]
              have := append_grow_ok hT h hei hid hlt (es := []) (by simp) hxl (.nil G) hvs (newCap := newCap) (by simpa using hcap)
              simpa using this
          · cases hbase
        · cases ha
      · cases ha
    · cases ha
  · cases ha

end Go.Ab
