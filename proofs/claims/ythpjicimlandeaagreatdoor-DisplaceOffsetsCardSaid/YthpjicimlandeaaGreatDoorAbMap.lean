/- The abstract machine, part 9: maps with keys of ints. -/
import Derived.Test.YthpjicimlandeaaGreatDoorAbAppend2
set_option linter.unusedVariables false
set_option linter.unusedSimpArgs false
namespace Go.Ab
open Go

def AV.key : AV → Option (Bool × List Int)
  | .sc (.int .i64 n) => some (false, [n])
  | .agg cs => match AV.i64s cs with
    | some l => some (true, l)
    | none => none
  | _ => none

theorem AV.key_ok {G : Ghost} {x : AV} {u : Value} {b : Bool} {l : List Int} (h : x.key = some (b, l)) (hx : Rep G x u) : u = keyVal b l := by
  unfold AV.key at h
  split at h
  · cases h; cases hx; rfl
  · split at h
    · rename_i cs l' hl
      cases h
      cases hx with
      | agg _ vs h1 h2 => rw [AV.i64s_ok hl ⟨h1, h2⟩]; simp [keyVal]
    · cases h
  · cases h

def keyEq (agg : Bool) (l l' : List Int) : Bool := if agg then l == l' else l.headD 0 == l'.headD 0

def mfind (agg : Bool) (l : List Int) : List (List Int × AV × Nat) → Nat → Option (Nat × AV)
  | [], _ => none
  | e :: es, i => if keyEq agg l e.1 then some (i, e.2.1) else mfind agg l es (i + 1)

/-- May a key of this type be asked in a map with these keys? -/
def keyFit (T : Tab) (kt : TypeId) (b : Bool) (l : List Int) (es : List (List Int × AV × Nat)) : Bool :=
  match T kt with
  | some ti => if b then ti.flat == some l.length && es.all (fun e => e.1.length == l.length) else (match ti.und with | .int _ => true | _ => false)
  | none => false

/-- Entries, one by one. -/
def Ents (G : Ghost) (agg : Bool) : List (List Int × AV × Nat) → List MapEntry → Prop
  | [], [] => True
  | e :: es, x :: xs => (x.key = keyVal agg e.1 ∧ Rep G e.2.1 x.val ∧ x.born = e.2.2) ∧ Ents G agg es xs
  | _, _ => False

theorem Ents.length {G : Ghost} {agg : Bool} : ∀ {es : List (List Int × AV × Nat)} {xs : List MapEntry}, Ents G agg es xs → xs.length = es.length
  | [], [], _ => rfl
  | [], _ :: _, h => h.elim
  | _ :: _, [], h => h.elim
  | _ :: es, _ :: xs, h => by simp [Ents.length h.2]

theorem Ents.of {G : Ghost} {agg : Bool} : ∀ {es : List (List Int × AV × Nat)} {xs : List MapEntry}, xs.length = es.length → (∀ i (h : i < es.length) (h' : i < xs.length), xs[i].key = keyVal agg es[i].1 ∧ Rep G es[i].2.1 xs[i].val ∧ xs[i].born = es[i].2.2) → Ents G agg es xs
  | [], [], _, _ => trivial
  | [], _ :: _, h, _ => by simp at h
  | _ :: _, [], h, _ => by simp at h
  | e :: es, x :: xs, h, hh => ⟨hh 0 (by simp) (by simp), Ents.of (by simpa using h) (fun i h1 h2 => hh (i + 1) (by simpa using h1) (by simpa using h2))⟩

theorem Ents.at {G : Ghost} {agg : Bool} : ∀ {es : List (List Int × AV × Nat)} {xs : List MapEntry}, Ents G agg es xs → ∀ i (h : i < es.length) (h' : i < xs.length), xs[i].key = keyVal agg es[i].1 ∧ Rep G es[i].2.1 xs[i].val ∧ xs[i].born = es[i].2.2
  | [], [], _, i, h, _ => by simp at h
  | [], _ :: _, h, _, _, _ => h.elim
  | _ :: _, [], h, _, _, _ => h.elim
  | e :: es, x :: xs, h, 0, _, _ => h.1
  | e :: es, x :: xs, h, i + 1, h1, h2 => Ents.at h.2 i (by simpa using h1) (by simpa using h2)

theorem ents_of_obj {G : Ghost} {p : Pl} {agg : Bool} {es : List (List Int × AV × Nat)} {clock : Nat} {ho : Option Obj} (h : ObjOk G p (.map agg es clock) ho) : ∃ xs : List MapEntry, ho = some (.map xs.toArray clock) ∧ Ents G agg es xs := by
  obtain ⟨ents, h1, h2, h3⟩ := h
  exact ⟨ents.toList, by simpa using h1, .of (by simpa using h2) (fun i h h' => by simpa using h3 i h (by simpa using h'))⟩

theorem obj_of_ents {G : Ghost} (p : Pl) {agg : Bool} {es : List (List Int × AV × Nat)} (clock : Nat) {xs : List MapEntry} (h : Ents G agg es xs) : ObjOk G p (.map agg es clock) (some (.map xs.toArray clock)) :=
  ⟨xs.toArray, rfl, by simpa using h.length, fun i h1 h2 => by simpa using h.at i h1 (by simpa using h2)⟩

/-- What is found. -/
def Found (G : Ghost) (k : Nat) : Option (Nat × AV) → Option (Nat × Value) → Prop
  | none, none => True
  | some (i, c), some (j, v) => i = j ∧ k ≤ i ∧ Rep G c v
  | _, _ => False

theorem findNow_ok {G : Ghost} (kd : IntKind) (l : List Int) : ∀ (es : List (List Int × AV × Nat)) (xs : List MapEntry) (i : Nat), Ents G false es xs →
    ∃ r, Instr.findNow (.int kd) (keyVal false l) xs i = some r ∧ Found G i (mfind false l es i) r
  | [], [], i, _ => ⟨none, rfl, trivial⟩
  | [], _ :: _, _, h => h.elim
  | _ :: _, [], _, h => h.elim
  | e :: es, x :: xs, i, h => by
    obtain ⟨⟨h1, h2, _⟩, h3⟩ := h
    by_cases e0 : l.headD 0 = e.1.headD 0
    · refine ⟨some (i, x.val), ?_, ?_⟩
      · simp only [Instr.findNow, h1, keyVal, Bool.false_eq_true, if_false, Instr.sameNow, if_true, e0, BEq.rfl]
      · simp only [mfind, keyEq, Bool.false_eq_true, if_false, e0, BEq.rfl, if_true]; exact ⟨rfl, Nat.le_refl _, h2⟩
    · obtain ⟨r, hr1, hr2⟩ := findNow_ok kd l es xs (i + 1) h3
      refine ⟨r, ?_, ?_⟩
      · simp only [Instr.findNow, h1, keyVal, Bool.false_eq_true, if_false, Instr.sameNow, if_true]
        have : (l.headD 0 == e.1.headD 0) = false := by simpa using e0
        rw [this]
        simpa [keyVal] using hr1
      · have : keyEq false l e.1 = false := by simpa [keyEq] using e0
        simp only [mfind, this, Bool.false_eq_true, if_false]
        cases hm : mfind false l es (i + 1) with
        | none => rw [hm] at hr2; cases r with
          | none => trivial
          | some _ => exact hr2
        | some c =>
          obtain ⟨ci, cc⟩ := c
          rw [hm] at hr2
          cases r with
          | none => exact hr2
          | some q => obtain ⟨a1, a2, a3⟩ := hr2; exact ⟨a1, by omega, a3⟩

theorem findAsking_ok {P : Program} {G : Ghost} {w : World} (kt : TypeId) (l : List Int) (hq : ∀ bs : List Int, bs.length = l.length → (Op.equalIn 10000 kt (keyVal true l) (keyVal true bs)).run P w = .ok (l == bs) w) :
    ∀ (es : List (List Int × AV × Nat)) (xs : List MapEntry) (i : Nat), Ents G true es xs → (∀ e ∈ es, e.1.length = l.length) →
    ∃ r, (Instr.findAsking kt (keyVal true l) xs i).run P w = .ok r w ∧ Found G i (mfind true l es i) r
  | [], [], i, _, _ => ⟨none, rfl, trivial⟩
  | [], _ :: _, _, h, _ => h.elim
  | _ :: _, [], _, h, _ => h.elim
  | e :: es, x :: xs, i, h, hl => by
    obtain ⟨⟨h1, h2, _⟩, h3⟩ := h
    have he := hq e.1 (hl e (by simp))
    by_cases e0 : (l == e.1) = true
    · refine ⟨some (i, x.val), ?_, ?_⟩
      · simp only [Instr.findAsking, h1, Op.equal, Op.maxDepth, Sem.run_bind, he, e0, Result.andThen_ok, if_true, Sem.run_pure]
      · simp only [mfind, keyEq, if_true, e0]; exact ⟨rfl, Nat.le_refl _, h2⟩
    · have e1 : (l == e.1) = false := by simpa using e0
      obtain ⟨r, hr1, hr2⟩ := findAsking_ok kt l hq es xs (i + 1) h3 (fun e he => hl e (by simp [he]))
      refine ⟨r, ?_, ?_⟩
      · simp only [Instr.findAsking, h1, Op.equal, Op.maxDepth, Sem.run_bind, he, e1, Result.andThen_ok, Bool.false_eq_true, if_false, hr1]
      · simp only [mfind, keyEq, if_true, e1, Bool.false_eq_true, if_false]
        cases hm : mfind true l es (i + 1) with
        | none => rw [hm] at hr2; cases r with
          | none => trivial
          | some _ => exact hr2
        | some c =>
          obtain ⟨ci, cc⟩ := c
          rw [hm] at hr2
          cases r with
          | none => exact hr2
          | some q => obtain ⟨a1, a2, a3⟩ := hr2; exact ⟨a1, by omega, a3⟩

theorem checkKey_int {P : Program} {w : World} (e : Bool) (n : Nat) (kt : TypeId) (k kd : IntKind) (m : Int) (h : (underlying kt).run P w = .ok (.int kd) w) : (Instr.checkKey e (n + 1) kt (.int k m)).run P w = .ok () w := by
  simp only [Instr.checkKey, Sem.run_bind, h, Result.andThen_ok, Sem.run_pure]

theorem findKey_ok {P : Program} {T : Tab} (hT : TabOk P T) {G : Ghost} {w : World} {kt : TypeId} {b : Bool} {l : List Int} {es : List (List Int × AV × Nat)} {xs : List MapEntry} (hx : Ents G b es xs) (hf : keyFit T kt b l es = true) :
    (∀ e, (Instr.checkKey e 10000 kt (keyVal b l)).run P w = .ok () w) ∧ ∃ r, (Instr.findKey kt (keyVal b l) xs).run P w = .ok r w ∧ Found G 0 (mfind b l es 0) r := by
  unfold keyFit at hf
  split at hf
  · rename_i ti ht
    cases b with
    | false =>
      simp only [Bool.false_eq_true, if_false] at hf
      split at hf
      · rename_i kd hu
        have hund := run_und hT ht w
        rw [hu] at hund
        refine ⟨fun e => ?_, ?_⟩
        · exact checkKey_int e 9999 kt .i64 kd _ hund
        · obtain ⟨r, h1, h2⟩ := findNow_ok kd l es xs 0 hx
          exact ⟨r, by simp only [Instr.findKey, Sem.run_bind, hund, Result.andThen_ok, h1, Sem.run_pure], h2⟩
      · cases hf
    | true =>
      simp only [if_true, Bool.and_eq_true, beq_iff_eq] at hf
      obtain ⟨hfl, hall⟩ := hf
      obtain ⟨_, heq⟩ := hT.flat kt ti l.length ht hfl
      have hlen : ∀ e ∈ es, e.1.length = l.length := fun e he => by simpa using List.all_eq_true.1 hall e he
      refine ⟨fun e => by simpa [keyVal] using (heq l l w rfl rfl).2 e, ?_⟩
      obtain ⟨r, h1, h2⟩ := findAsking_ok (P := P) (w := w) kt l (fun bs hb => by simpa [keyVal] using (heq l bs w rfl hb).1) es xs 0 hx hlen
      have hund := run_und hT ht w
      cases es with
      | nil =>
        cases xs with
        | nil => exact ⟨none, by simp [Instr.findKey, hund, Instr.findNow], trivial⟩
        | cons _ _ => exact hx.elim
      | cons e es =>
        cases xs with
        | nil => exact hx.elim
        | cons x xs =>
          refine ⟨r, ?_, h2⟩
          have hno : Instr.findNow ti.und (keyVal true l) (x :: xs) 0 = none := by
            unfold Instr.findNow
            have : Instr.sameNow ti.und (keyVal true l) x.key = none := by
              rw [hx.1.1]; simp only [keyVal, if_true]; cases ti.und <;> rfl
            rw [this]
          simp only [Instr.findKey, Sem.run_bind, hund, Result.andThen_ok, hno, h1]
  · cases hf

def TI.zeroAV (ti : TI) : AV := .ofValue ti.zero

def aLookup (T : Tab) (σ : Store) (t : TypeId) (x ix : AV) (commaOk : Bool) : Option AV :=
  match T t, ix.key with
  | some { und := .map kt et, .. }, some (b, l) =>
    match T et with
    | some ei =>
      match x with
      | .mm id => match σ.objs id with
        | some (.map agg es _) => if (agg = b ∨ es.isEmpty = true) ∧ keyFit T kt b l es = true then
            let r := match mfind b l es 0 with
              | some (_, c) => (c, true)
              | none => (ei.zeroAV, false)
            some (if commaOk then .tup [r.1, .sc (.bool r.2)] else r.1)
          else none
        | _ => none
      | _ => none
    | none => none
  | _, _ => none

theorem aLookup_ok {P : Program} {T : Tab} (hT : TabOk P T) {G : Ghost} {σ : Store} {w : World} (h : Rel G σ w) {t : TypeId} {id : Nat} {x ix v : AV} {u y : Value} {ok : Bool} (hx : Rep G x u) (hy : Rep G ix y)
    (ha : aLookup T σ t x ix ok = some v) : VRes G σ w σ id v ((Instr.lookup t u y ok).run P w) := by
  unfold aLookup at ha
  split at ha
  · rename_i kt et _ _ _ _ b l ht hk
    split at ha
    · rename_i ei hei
      split at ha
      · rename_i id'
        split at ha
        · rename_i agg es clock ho
          split at ha
          · rename_i hc
            obtain ⟨hab, hf⟩ := hc
            cases ha
            obtain rfl := AV.key_ok hk hy
            cases hx with
            | mm _ p hp =>
            have hv : p.virt = false := by
              rcases h.lies ho hp with ⟨_, _, _, e2⟩ | ⟨e2, _⟩
              · cases e2
              · exact e2
            obtain ⟨_, _, hobj⟩ := h.real ho hp hv
            obtain ⟨xs, hb, hents0⟩ := ents_of_obj hobj
            have hents : Ents G b es xs := by
              rcases hab with rfl | he
              · exact hents0
              · have he' : es = [] := by simpa using he
                subst he'
                have : xs = [] := by have := hents0.length; simpa using this
                subst this
                trivial
            obtain ⟨hck, r, hfind, hfound⟩ := findKey_ok hT (P := P) (w := w) hents hf
            have hget : (getObj p.block).run P w = .ok (.map xs.toArray clock) w := by simp [getObj, Sem.run, hb]
            have hend : ∀ (c : AV) (z : Value) (bb : Bool), Rep G c z → VRes G σ w σ id (if ok then .tup [c, .sc (.bool bb)] else c) (.ok (if ok then .tuple #[z, .bool bb] else z) w) := fun c z bb hr => by
              refine VRes.same ?_ h
              cases ok
              · exact hr
              · have := Rep.tup (G := G) [c, .sc (.bool bb)] [z, .bool bb] rfl (fun i h1 h2 => by
                  cases i with
                  | zero => exact hr
                  | succ i => cases i with
                    | zero => exact .sc _
                    | succ i => simp at h1; omega)
                exact this
            simp only [Instr.lookup, Sem.run_bind, run_und hT ht, Result.andThen_ok, hget, Sem.run_pure, hck, hfind]
            cases hm : mfind b l es 0 with
            | none =>
              rw [hm] at hfound
              cases r with
              | some _ => exact hfound.elim
              | none =>
                simp only [Sem.run_bind, run_zero hT hei, Result.andThen_ok, Sem.run_pure]
                exact hend _ _ false (Rep.ofValue G _)
            | some c =>
              obtain ⟨ci, cc⟩ := c
              rw [hm] at hfound
              cases r with
              | none => exact hfound.elim
              | some q =>
                obtain ⟨qi, qv⟩ := q
                simp only [Sem.run_bind, Result.andThen_ok, Sem.run_pure]
                exact hend _ _ true hfound.2.2
          · cases ha
        · cases ha
      · cases ha
    · cases ha
  · cases ha

/-- A new entry, or a new value of an old one. -/
def mput (agg : Bool) (l : List Int) (v : AV) (clock : Nat) (es : List (List Int × AV × Nat)) : List (List Int × AV × Nat) × Nat :=
  match mfind agg l es 0 with
  | some (i, _) => (es.modify i (fun e => (l, v, e.2.2)), clock)
  | none => (es ++ [(l, v, clock)], clock + 1)

def aMapUpdate (T : Tab) (σ : Store) (t : TypeId) (x ix v : AV) : Option Store :=
  match T t, ix.key with
  | some { und := .map kt _, .. }, some (b, l) =>
    match x with
    | .mm id => match σ.objs id with
      | some (.map agg es clock) =>
        if es.isEmpty ∧ keyFit T kt b l [] = true then some (σ.set id (.map b [(l, v, clock)] (clock + 1)))
        else if agg = b ∧ keyFit T kt b l es = true then some (σ.set id (.map agg (mput b l v clock es).1 (mput b l v clock es).2))
        else none
      | _ => none
    | _ => none
  | _, _ => none

theorem keyEq_val {agg : Bool} {l l' : List Int} (h : keyEq agg l l' = true) : keyVal agg l = keyVal agg l' := by
  cases agg
  · simp [keyEq] at h; simp [keyVal, h]
  · simp [keyEq] at h; rw [h]

theorem mfind_at {agg : Bool} {l : List Int} : ∀ {es : List (List Int × AV × Nat)} {k i : Nat} {c : AV}, mfind agg l es k = some (i, c) → ∃ e, es[i - k]? = some e ∧ k ≤ i ∧ keyEq agg l e.1 = true ∧ e.2.1 = c
  | [], k, i, c, h => by simp [mfind] at h
  | e :: es, k, i, c, h => by
    unfold mfind at h
    split at h
    · rename_i he; cases h; exact ⟨e, by simp, Nat.le_refl _, he, rfl⟩
    · obtain ⟨e', h1, h2, h3, h4⟩ := mfind_at h
      refine ⟨e', ?_, by omega, h3, h4⟩
      have : i - k = (i - (k + 1)) + 1 := by omega
      rw [this]; simpa using h1

theorem sameBits_key (agg : Bool) (l : List Int) : Instr.sameBits 10000 (keyVal agg l) (keyVal agg l) = true := by
  cases agg
  · simp [keyVal, Instr.sameBits]
  · simp only [keyVal, if_true]
    show (Instr.sameBits (9999 + 1) _ _) = true
    simp only [Instr.sameBits, BEq.rfl, Bool.true_and]
    have : ∀ l : List Int, (((l.map (Value.int .i64)).zip (l.map (Value.int .i64))).all fun (x, y) => Instr.sameBits 9999 x y) = true := by
      intro l
      induction l with
      | nil => rfl
      | cons a l ih =>
        simp only [List.map_cons, List.zip_cons_cons, List.all_cons, Bool.and_eq_true]
        exact ⟨by simp [Instr.sameBits], ih⟩
    simpa using this l

theorem Ents.modify {G : Ghost} {agg : Bool} {l : List Int} {v : AV} {z : Value} (hv : Rep G v z) : ∀ {es : List (List Int × AV × Nat)} {xs : List MapEntry} (i : Nat), Ents G agg es xs →
    Ents G agg (es.modify i (fun e => (l, v, e.2.2))) (xs.modify i (fun x => { x with key := keyVal agg l, val := z }))
  | [], [], i, _ => by simp [Ents]
  | [], _ :: _, _, h => h.elim
  | _ :: _, [], _, h => h.elim
  | e :: es, x :: xs, 0, h => by simp only [List.modify_zero_cons]; exact ⟨⟨rfl, hv, h.1.2.2⟩, h.2⟩
  | e :: es, x :: xs, i + 1, h => by simp only [List.modify_succ_cons]; exact ⟨h.1, Ents.modify hv i h.2⟩

theorem Ents.snoc {G : Ghost} {agg : Bool} {l : List Int} {v : AV} {z : Value} {c : Nat} (hv : Rep G v z) : ∀ {es : List (List Int × AV × Nat)} {xs : List MapEntry}, Ents G agg es xs →
    Ents G agg (es ++ [(l, v, c)]) (xs ++ [{ key := keyVal agg l, val := z, born := c }])
  | [], [], _ => ⟨⟨rfl, hv, rfl⟩, trivial⟩
  | [], _ :: _, h => h.elim
  | _ :: _, [], h => h.elim
  | e :: es, x :: xs, h => ⟨h.1, Ents.snoc hv h.2⟩

theorem run_setObj {P : Program} {w : World} {b : Nat} {o x : Obj} (h : w.heap[b]? = some x) (hx : ∀ c e f, x ≠ .cells c e f) : (setObj b o).run P w = .ok () (setBlk w b o) := by
  cases x with
  | cells c e f => exact absurd rfl (hx c e f)
  | _ => simp [setObj, Sem.run, h, setBlk]

theorem aMapUpdate_ok {P : Program} {T : Tab} (hT : TabOk P T) {G : Ghost} {σ σ' : Store} {w : World} (h : Rel G σ w) {t : TypeId} {x ix v : AV} {u y z : Value} (hx : Rep G x u) (hy : Rep G ix y) (hz : Rep G v z)
    (ha : aMapUpdate T σ t x ix v = some σ') : ∃ w', (Instr.mapUpdate t u y z).run P w = .ok () w' ∧ Rel G σ' w' ∧ Fr G σ w G σ' w' := by
  unfold aMapUpdate at ha
  split at ha
  · rename_i kt et _ _ _ _ b l ht hk
    split at ha
    · rename_i id'
      split at ha
      · rename_i agg es clock ho
        obtain rfl := AV.key_ok hk hy
        cases hx with
        | mm _ p hp =>
        have hv : p.virt = false := by
          rcases h.lies ho hp with ⟨_, _, _, e2⟩ | ⟨e2, _⟩
          · cases e2
          · exact e2
        obtain ⟨_, _, hobj⟩ := h.real ho hp hv
        obtain ⟨xs, hb, hents⟩ := ents_of_obj hobj
        have hget : (getObj p.block).run P w = .ok (.map xs.toArray clock) w := by simp [getObj, Sem.run, hb]
        have hset : ∀ o, (setObj p.block o).run P w = .ok () (setBlk w p.block o) := fun o => run_setObj hb (by intro _ _ _ h; cases h)
        have hrel : ∀ (ag : Bool) (es' : List (List Int × AV × Nat)) (xs' : List MapEntry) (c : Nat), Ents G ag es' xs' → Rel G (σ.set id' (.map ag es' c)) (setBlk w p.block (.map xs'.toArray c)) ∧ Fr G σ w G (σ.set id' (.map ag es' c)) (setBlk w p.block (.map xs'.toArray c)) := fun ag es' xs' c he =>
          ⟨h.write ho hp hv _ _ rfl rfl rfl (setBlk_size _ _ _) (fun k hk => setBlk_other _ _ _ _ hk) (setBlk_same _ _ _ _ hb) (obj_of_ents p c he), Fr.write ho hp hv _ (setBlk_size _ _ _) (fun k hk => setBlk_other _ _ _ _ hk)⟩
        split at ha
        · rename_i hc
          obtain ⟨hemp, hf⟩ := hc
          cases ha
          have : es = [] := by simpa using hemp
          subst this
          have : xs = [] := by have := hents.length; simpa using this
          subst this
          obtain ⟨hck, r, hfind, hfound⟩ := findKey_ok hT (P := P) (w := w) (G := G) (b := b) (es := []) (xs := []) trivial hf
          have : r = none := by cases r with
            | none => rfl
            | some _ => exact hfound.elim
          subst this
          refine ⟨setBlk w p.block (.map ([({ key := keyVal b l, val := z, born := clock } : MapEntry)]).toArray (clock + 1)), ?_, hrel b _ _ _ ⟨⟨rfl, hz, rfl⟩, trivial⟩⟩
          simp only [Instr.mapUpdate, Sem.run_bind, run_und hT ht, Result.andThen_ok, hget, hck, hfind]
          simp [hset]
        · split at ha
          · rename_i hc
            obtain ⟨rfl, hf⟩ := hc
            cases ha
            obtain ⟨hck, r, hfind, hfound⟩ := findKey_ok hT (P := P) (w := w) hents hf
            cases hm : mfind agg l es 0 with
            | none =>
              rw [hm] at hfound
              have : r = none := by cases r with
                | none => rfl
                | some _ => exact hfound.elim
              subst this
              simp only [mput, hm]
              refine ⟨setBlk w p.block (.map (xs ++ [({ key := keyVal agg l, val := z, born := clock } : MapEntry)]).toArray (clock + 1)), ?_, hrel agg _ _ _ (hents.snoc hz)⟩
              simp only [Instr.mapUpdate, Sem.run_bind, run_und hT ht, Result.andThen_ok, hget, hck, hfind]
              simp [hset]
            | some c =>
              obtain ⟨ci, cc⟩ := c
              rw [hm] at hfound
              cases r with
              | none => exact hfound.elim
              | some q =>
                obtain ⟨qi, qv⟩ := q
                obtain ⟨rfl, _, _⟩ := hfound
                obtain ⟨e, he1, _, he2, _⟩ := mfind_at hm
                simp only [Nat.sub_zero] at he1
                obtain ⟨hlt, rfl⟩ := List.getElem?_eq_some_iff.1 he1
                have hlt' : ci < xs.length := by rw [hents.length]; exact hlt
                have hkey : xs[ci].key = keyVal agg l := by rw [(hents.at ci hlt hlt').1]; exact (keyEq_val he2).symm
                simp only [mput, hm]
                refine ⟨setBlk w p.block (.map (xs.modify ci (fun x => { x with key := keyVal agg l, val := z })).toArray clock), ?_, hrel agg _ _ _ (hents.modify hz ci)⟩
                simp only [Instr.mapUpdate, Sem.run_bind, run_und hT ht, Result.andThen_ok, hget, hck, hfind]
                have hstay : (Instr.keyThatStays (((xs.toArray[ci]?).map (·.key)).getD (keyVal agg l)) (keyVal agg l)).run P w = .ok (keyVal agg l) w := by
                  have : ((xs.toArray[ci]?).map (·.key)).getD (keyVal agg l) = keyVal agg l := by simp [hlt', hkey]
                  rw [this]
                  simp [Instr.keyThatStays, sameBits_key]
                simp only [Sem.run_bind, hstay, Result.andThen_ok, hset]
                congr 3
                simp
          · cases ha
      · cases ha
    · cases ha
  · cases ha

end Go.Ab
