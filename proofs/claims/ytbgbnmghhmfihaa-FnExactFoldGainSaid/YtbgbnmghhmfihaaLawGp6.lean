/- A part of the proof: an evaluator of the program's code over plain data, proved sound, and walks of the program's functions by it. No conditions beyond those in the theorems. -/
import Derived.Laws.BytesString
import Derived.Laws.Cover3
import Derived.Test.YtbgbnmghhmfihaaLawGp5
set_option linter.unusedVariables false
set_option linter.unusedSimpArgs false
set_option linter.constructorNameAsVariable false
set_option linter.unusedSectionVars false
set_option linter.defProp false
set_option linter.unusedVariables false
set_option linter.constructorNameAsVariable false
namespace Go.Fs
open Go.RowKit

/-! ### maps from texts to what comes to no block -/
def kvGet : List (ByteArray × D) → ByteArray → Option D
  | [], _ => none
  | x :: kv, k => if k = x.1 then some x.2 else kvGet kv k
def kvSet : List (ByteArray × D) → ByteArray → D → List (ByteArray × D)
  | [], k, d => [(k, d)]
  | x :: kv, k, d => if k = x.1 then (k, d) :: kv else x :: kvSet kv k d

def opMkMap (T : Tab) (H : Nat → Option Ob) (dst : Nat) (ty : TypeId) : Option (AV × (Nat → Option Ob)) :=
  match H dst with
  | none => some (.mp dst, upd H dst (some (.map [])))
  | _ => none
def opMapSet (T : Tab) (H : Nat → Option Ob) (ty : TypeId) (m k x : AV) : Option (Nat → Option Ob) :=
  match T.mp ty, m, k, x with
  | some _, .mp r, .d (.s key), .d d => if mapv d = true then match H r with
    | some (.map kv) => some (upd H r (some (.map (kvSet kv key d))))
    | _ => none else none
  | _, _, _, _ => none
def opMapGet (T : Tab) (H : Nat → Option Ob) (ty : TypeId) (m k : AV) (ok : Bool) : Option AV :=
  match T.mp ty, m, k with
  | some (_, _, z), .mp r, .d (.s key) => match H r with
    | some (.map kv) => some (if ok then .t [.d ((kvGet kv key).getD z), .d (.b (kvGet kv key).isSome)] else .d ((kvGet kv key).getD z))
    | _ => none
  | _, _, _ => none

/-- A list is asked whether it is nil; the answer: whether 'not' is asked. -/
def nilCmp (T : Tab) (op : BinOp) (ty : TypeId) (y : Operand) : Option Bool := match op, T.kd ty, y with
  | .eql, some (.slice _), .const (.slice none 0 0) => some false
  | .neq, some (.slice _), .const (.slice none 0 0) => some true
  | _, _, _ => none

/-- The bytes of a list of bytes. -/
def byteL : List (List D) → Option (List Int)
  | [] => some []
  | [.i .u8 n] :: xs => (byteL xs).map (n :: ·)
  | _ => none
def bytesS (ns : List Int) : ByteArray := ns.foldl (fun r n => r.push (UInt8.ofNat n.toNat)) ByteArray.empty
def opB2S (T : Tab) (H : Nat → Option Ob) (src dst : TypeId) (x : AV) : Option AV :=
  match T.kd src, T.kd dst with
  | some (.slice e), some .str => match T.kd e with
    | some (.int .u8) => (borC H x).bind fun d => match d with
      | .l 1 xs => (byteL xs).map fun ns => .d (.s (bytesS ns))
      | _ => none
    | _ => none
  | _, _ => none

section rel
variable {P : Program} {T : Tab} {B : Ctx} {G : Nat → GI} {s : St} {a : Act} {w w' : World}

theorem Tab.mp_ok (hT : T.ok P = true) {t k e : TypeId} {z : D} (h : T.mp t = some (k, e, z)) : P.underlying t = some (.map k e) ∧ P.underlying k = some .string ∧ mapv z = true ∧ ∀ w, (zeroValue e).run P w = .ok (scalV z) w := by
  simp only [Tab.ok, Bool.and_eq_true] at hT
  have := List.all_eq_true.1 hT.2 _ (lookup_mem h)
  simp only [mapOK, Bool.and_eq_true] at this
  obtain ⟨⟨h0, h1⟩, h2⟩ := this
  refine ⟨?_, ?_, ?_⟩
  · split at h1
    · rename_i k' e' he
      simp only [Bool.and_eq_true, beq_iff_eq] at h1
      rw [he, h1.1, h1.2]
    · cases h1
  · split at h2
    · rename_i he; exact he
    · cases h2
  · split at h0
    case h_2 => cases h0
    rename_i i hi
    split at h0
    case h_2 => cases h0
    rename_i z' hz'
    have hz : scalV z = z' ∧ mapv z = true := by
      unfold zmap at h0
      split at h0
      · simp only [Bool.and_eq_true, beq_iff_eq] at h0
        rw [h0.1, h0.2]; exact ⟨rfl, rfl⟩
      · simp only [beq_iff_eq] at h0
        rw [h0]; exact ⟨rfl, rfl⟩
      · rename_i s s'
        simp only [Bool.and_eq_true, beq_iff_eq] at h0
        have : s = s' := by
          obtain ⟨⟨a⟩⟩ := s
          obtain ⟨⟨b⟩⟩ := s'
          have e1 : a.length = 0 := h0.1
          have e2 : b.length = 0 := h0.2
          rw [List.eq_nil_of_length_eq_zero e1, List.eq_nil_of_length_eq_zero e2]
        rw [this]; exact ⟨rfl, rfl⟩
      · cases h0
    refine ⟨hz.2, fun w => ?_⟩
    rw [hz.1]
    simp [Go.zeroValue, typeInfo, hi, hz']

theorem scalV_tr {own : Bool} {v : Value} {d : D} {S : List Nat} (h : Tr w own v d S) (hm : mapv d = true) : v = scalV d ∧ S = [] := by
  cases h <;> simp_all [mapv, scalV]

theorem tr_scalV {own : Bool} {d : D} (h : mapv d = true) : Tr w own (scalV d) d [] ∧ (scalV d).oneCell' = true := by
  cases d <;> simp_all [mapv, scalV] <;> first | exact ⟨.b _, rfl⟩ | exact ⟨.i _ _, rfl⟩ | exact ⟨.s _, rfl⟩

theorem kvGet_some : ∀ {kv : List (ByteArray × D)} {k : ByteArray} {d : D}, kvGet kv k = some d → (k, d) ∈ kv
  | [], _, _, h => by cases h
  | x :: kv, k, d, h => by
    simp only [kvGet] at h
    split at h
    · rename_i e; subst e; simp only [Option.some.injEq] at h; subst h; simp
    · simp [kvGet_some h]

theorem bbeq (a b : ByteArray) : (a == b) = decide (a = b) := by
  show (a.data == b.data) = _
  by_cases h : a = b
  · subst h; simp
  · have : a.data ≠ b.data := fun e => h (ByteArray.ext e)
    simp [h, this]

theorem findNow_ok (key : ByteArray) : ∀ (es : List MapEntry) (kv : List (ByteArray × D)) (i : Nat), es.map (fun e => (e.key, e.val)) = kv.map (fun x => (Value.string x.1, scalV x.2)) →
    (kvGet kv key = none → Instr.findNow .string (.string key) es i = some none ∧ kvSet kv key = fun d => kv ++ [(key, d)]) ∧
    (∀ d, kvGet kv key = some d → ∃ j, Instr.findNow .string (.string key) es i = some (some (i + j, scalV d)) ∧ (es[j]?).map (·.key) = some (.string key) ∧
      ∀ d', (es.modify j fun e => { e with key := .string key, val := scalV d' }).map (fun e => (e.key, e.val)) = (kvSet kv key d').map (fun x => (Value.string x.1, scalV x.2)))
  | [], [], i, _ => ⟨fun _ => ⟨rfl, rfl⟩, fun d h => by cases h⟩
  | [], _ :: _, i, h => by simp at h
  | _ :: _, [], i, h => by simp at h
  | e :: es, x :: kv, i, h => by
    simp only [List.map_cons, List.cons.injEq, Prod.mk.injEq] at h
    obtain ⟨⟨h1, h2⟩, h3⟩ := h
    obtain ⟨ih1, ih2⟩ := findNow_ok key es kv (i + 1) h3
    by_cases hk : key = x.1
    · subst hk
      refine ⟨fun hn => by simp [kvGet] at hn, fun d hd => ⟨0, ?_, by simp [h1], fun d' => by simp [kvSet, h3]⟩⟩
      simp only [kvGet, if_true, Option.some.injEq] at hd
      subst hd
      simp [Instr.findNow, Instr.sameNow, h1, h2, bbeq]
    · have hb : (key == x.1) = false := by rw [bbeq]; simpa using hk
      have hs : ∀ j, Instr.findNow .string (.string key) (e :: es) j = Instr.findNow .string (.string key) es (j + 1) := fun j => by
        simp [Instr.findNow, Instr.sameNow, h1, hb]
      refine ⟨fun hn => ?_, fun d hd => ?_⟩
      · simp only [kvGet, if_neg hk] at hn
        obtain ⟨a1, a2⟩ := ih1 hn
        refine ⟨by rw [hs]; exact a1, ?_⟩
        funext d
        simp only [kvSet, if_neg hk, a2, List.cons_append]
      · simp only [kvGet, if_neg hk] at hd
        obtain ⟨j, a1, a2, a3⟩ := ih2 d hd
        refine ⟨j + 1, by rw [hs, a1]; congr 3; omega, by simpa using a2, fun d' => ?_⟩
        simp only [kvSet, if_neg hk, List.modify_succ_cons, List.map_cons, List.cons.injEq, Prod.mk.injEq]
        exact ⟨⟨h1, h2⟩, a3 d'⟩

theorem opMkMap_ok (h : RelG B G s a w) {dst : Nat} {ty : TypeId} {av : AV} {H' : Nat → Option Ob} (hm : opMkMap T s.heap dst ty = some (av, H')) :
    ∃ v w' G', (Instr.makeMap ty none).run P w = .ok v w' ∧ RelG B G' { s with heap := H' } a w' ∧ AVR w' G' H' (Ban B.F G' H') v av := by
  simp only [opMkMap] at hm
  split at hm
  case h_2 => cases hm
  rename_i hk
  simp only [Option.some.injEq, Prod.mk.injEq] at hm
  obtain ⟨rfl, rfl⟩ := hm
  let gi : GI := { blk := w.heap.size, off := 0, cap := 0, vs := [], sub := [] }
  have hold : ∀ b, b < w.heap.size → (w.alloc (.map #[] 0)).heap[b]? = w.heap[b]? := fun b hb => heap_alloc_old w _ b hb
  refine ⟨.map (some w.heap.size), w.alloc (.map #[] 0), upd G dst gi, ?_, h.new dst gi (.map []) hk (rest_alloc ..) hold (by simp [ownOf, gi]) (by simp [ownOf]) ⟨⟨#[], 0, heap_alloc_new w _, rfl⟩, by simp⟩, ?_⟩
  · simp [Instr.makeMap]
  · have := AVR.mp (w := w.alloc (.map #[] 0)) (G := upd G dst gi) (H := upd s.heap dst (some (.map []))) (Av := Ban B.F (upd G dst gi) (upd s.heap dst (some (.map [])))) dst [] (upd_same ..)
    rw [upd_same] at this
    exact this

theorem AVR.inv_s {H : Nat → Option Ob} {Av : Nat → Prop} {v : Value} {x : ByteArray} (h : AVR w G H Av v (.d (.s x))) : v = .string x := by
  cases h with
  | d _ _ S h1 h _ => exact h.inv_s.1

theorem checkKey_str {k : TypeId} (hk : P.underlying k = some .string) (e : Bool) (x : ByteArray) : (Instr.checkKey e 10000 k (.string x)).run P w = .ok () w := by
  show (Instr.checkKey e (9999 + 1) k (.string x)).run P w = .ok () w
  rw [Instr.checkKey]
  simp only [Sem.run_bind, run_underlying hk, Result.andThen_ok]
  rfl

theorem run_findKey {kt : TypeId} (hk : P.underlying kt = some .string) {key : ByteArray} {es : List MapEntry} {r : Option (Nat × Value)} (h : Instr.findNow .string (.string key) es 0 = some r) : (Instr.findKey kt (.string key) es).run P w = .ok r w := by
  simp only [Instr.findKey, Sem.run_bind, run_underlying hk, Result.andThen_ok, h]
  rfl

theorem opMapGet_ok (hT : T.ok P = true) (h : RelG B G s a w) {ty : TypeId} {m k : AV} {mv kv' : Value} (hmv : AVR w G s.heap (Ban B.F G s.heap) mv m) (hkv : AVR w G s.heap (Ban B.F G s.heap) kv' k) {ok : Bool} {av : AV} (hm : opMapGet T s.heap ty m k ok = some av) :
    ∃ v, (Instr.lookup ty mv kv' ok).run P w = .ok v w ∧ AVR w G s.heap (Ban B.F G s.heap) v av := by
  unfold opMapGet at hm
  split at hm
  case h_2 => cases hm
  rename_i kt e z r key hmp
  split at hm
  case h_2 => cases hm
  rename_i kv hr
  simp only [Option.some.injEq] at hm
  obtain ⟨u1, u2, u3, u4⟩ := Tab.mp_ok hT hmp
  obtain rfl := hkv.inv_s
  have hM : MapR w (G r) kv := h.obj r _ hr
  obtain ⟨⟨es, clock, hg, hes⟩, hok⟩ := hM
  cases hmv with
  | mpd _ _ hk => rw [hr] at hk; cases hk
  | mp _ kv2 hk =>
    have hget : (getObj (G r).blk).run P w = .ok (.map es clock) w := by simp [getObj, Sem.run, hg]
    obtain ⟨f1, f2⟩ := findNow_ok key es.toList kv 0 hes
    have fin : ∀ (d : D) (b : Bool), mapv d = true → AVR w G s.heap (Ban B.F G s.heap) (if ok then .tuple #[scalV d, .bool b] else scalV d) (if ok then .t [.d d, .d (.b b)] else .d d) := by
      intro d b hd
      obtain ⟨q1, q2⟩ := tr_scalV (w := w) (own := false) hd
      cases ok with
      | true => exact .t _ _ (.cons _ _ _ _ (.sc q2 q1) (.cons _ _ _ _ (.sc rfl (.b _)) .nil))
      | false => exact .sc q2 q1
    cases hgk : kvGet kv key with
    | none =>
      rw [hgk] at hm
      subst hm
      refine ⟨if ok then .tuple #[scalV z, .bool false] else scalV z, ?_, fin z false u3⟩
      simp [Instr.lookup, run_underlying u1, hget, checkKey_str u2, run_findKey u2 (f1 hgk).1, u4]
    | some d =>
      rw [hgk] at hm
      subst hm
      obtain ⟨j, g1, g2, g3⟩ := f2 d hgk
      refine ⟨if ok then .tuple #[scalV d, .bool true] else scalV d, ?_, fin d true (hok _ (kvGet_some hgk))⟩
      have g1 := run_findKey (P := P) (w := w) u2 g1
      simp [Instr.lookup, run_underlying u1, hget, checkKey_str u2, g1]

theorem setBlock_heap_ne {w : World} {r b : Nat} {o : Obj} (h : b ≠ r) : ({ w with heap := w.heap.setIfInBounds r o } : World).heap[b]? = w.heap[b]? := by
  simp [Array.getElem?_setIfInBounds_ne (Ne.symm h)]

theorem opMapSet_ok (hT : T.ok P = true) (h : RelG B G s a w) {ty : TypeId} {m k x : AV} {mv kv' xv : Value} (hmv : AVR w G s.heap (Ban B.F G s.heap) mv m) (hkv : AVR w G s.heap (Ban B.F G s.heap) kv' k) (hxv : AVR w G s.heap (Ban B.F G s.heap) xv x) {H' : Nat → Option Ob} (hm : opMapSet T s.heap ty m k x = some H') :
    ∃ w' G', (Instr.mapUpdate ty mv kv' xv).run P w = .ok () w' ∧ RelG B G' { s with heap := H' } a w' := by
  unfold opMapSet at hm
  split at hm
  case h_2 => cases hm
  rename_i p r key d hmp
  obtain ⟨kt, e, z⟩ := p
  split at hm
  case isFalse => cases hm
  rename_i hd
  split at hm
  case h_2 => cases hm
  rename_i kv hr
  simp only [Option.some.injEq] at hm
  obtain ⟨u1, u2, u3, u4⟩ := Tab.mp_ok hT hmp
  obtain rfl := hkv.inv_s
  obtain rfl : xv = scalV d := by
    cases hxv with
    | d _ _ S h1 ht _ => exact (scalV_tr ht hd).1
  have hM : MapR w (G r) kv := h.obj r _ hr
  obtain ⟨⟨es, clock, hg, hes⟩, hok⟩ := hM
  have hlt := (Array.getElem?_eq_some_iff.1 hg).1
  have hown : (G r).blk ∈ ownOf (G r) (s.heap r) := by rw [hr]; simp [ownOf]
  have go : ∀ (es' : Array MapEntry) (c' : Nat) (kv2 : List (ByteArray × D)), es'.toList.map (fun e => (e.key, e.val)) = kv2.map (fun x => (Value.string x.1, scalV x.2)) → (∀ x ∈ kv2, mapv x.2 = true) →
      (Instr.mapUpdate ty (.map (some (G r).blk)) (.string key) (scalV d)).run P w = .ok () { w with heap := w.heap.setIfInBounds (G r).blk (.map es' c') } → upd s.heap r (some (.map kv2)) = H' →
      ∃ w' G', (Instr.mapUpdate ty (.map (some (G r).blk)) (.string key) (scalV d)).run P w = .ok () w' ∧ RelG B G' { s with heap := H' } a w' := by
    intro es' c' kv2 h1 h2 h3 h4
    subst h4
    refine ⟨_, G, h3, ?_⟩
    refine h.step (w' := { w with heap := w.heap.setIfInBounds (G r).blk (.map es' c') }) (G' := G) (upd s.heap r (some (.map kv2))) (fun i => i = r) ⟨rfl, rfl, rfl, by simp⟩ ?_ (fun i hi => ⟨upd_ne _ _ hi, rfl⟩) ?_ ?_ ?_ ?_ ?_
    · intro b hb hn
      exact setBlock_heap_ne fun e => hn r rfl (by rw [e]; exact hown)
    · rintro i o rfl ho
      rw [hr] at ho; cases ho
      exact ⟨_, upd_same .., .map _ _ rfl⟩
    · rintro i rfl b hb
      rw [upd_same] at hb
      refine .inl ⟨i, rfl, ?_⟩
      rw [hr]; exact hb
    · rintro i rfl; rw [upd_same]; simp [ownOf]
    · rintro i j rfl rfl _ _ _; rfl
    · rintro i o rfl ho
      rw [upd_same] at ho
      cases ho
      exact ⟨⟨es', c', by simp [hlt], h1⟩, h2⟩
  have hset : ∀ (o' : Obj), (setObj (G r).blk o').run P w = .ok () { w with heap := w.heap.setIfInBounds (G r).blk o' } := fun o' => by
    simp [setObj, Sem.run, hg]
  have hget : (getObj (G r).blk).run P w = .ok (.map es clock) w := by simp [getObj, Sem.run, hg]
  obtain ⟨f1, f2⟩ := findNow_ok key es.toList kv 0 hes
  cases hmv with
  | mpd _ _ hk => rw [hr] at hk; cases hk
  | mp _ kv2 hk =>
    cases hgk : kvGet kv key with
    | none =>
      obtain ⟨g1, g2⟩ := f1 hgk
      refine go (es.push { key := .string key, val := scalV d, born := clock }) (clock + 1) (kvSet kv key d) ?_ ?_ ?_ hm
      · rw [g2]; simp [hes]
      · rw [g2]
        intro x hx
        rcases List.mem_append.1 hx with hx | hx
        · exact hok x hx
        · obtain rfl : x = (key, d) := by simpa using hx
          exact hd
      · simp only [Instr.mapUpdate, Sem.run_bind, run_underlying u1, Result.andThen_ok, hget, checkKey_str u2, run_findKey u2 g1, hset]
    | some d0 =>
      obtain ⟨j, g1, g2, g3⟩ := f2 d0 hgk
      have hj : ((es[0 + j]?).map (·.key)).getD (.string key) = .string key := by
        rw [← Array.getElem?_toList, Nat.zero_add, g2]; rfl
      have hks : (Instr.keyThatStays (.string key) (.string key)).run P w = .ok (.string key) w := by
        have : Instr.sameBits 10000 (.string key) (.string key) = true := by
          show Instr.sameBits (9999 + 1) _ _ = true
          simp [Instr.sameBits, bbeq]
        simp only [Instr.keyThatStays, this, if_true]
        rfl
      refine go (es.modify (0 + j) fun e => { e with key := .string key, val := scalV d }) clock (kvSet kv key d) ?_ ?_ ?_ hm
      · rw [Nat.zero_add, ← g3 d]; simp
      · have mem : ∀ (kv : List (ByteArray × D)), (∀ x ∈ kv, mapv x.2 = true) → ∀ x ∈ kvSet kv key d, mapv x.2 = true := by
          intro kv
          induction kv with
          | nil => intro _ x hx; obtain rfl : x = (key, d) := by simpa [kvSet] using hx
                   exact hd
          | cons y kv ih =>
            intro ho x hx
            simp only [kvSet] at hx
            split at hx
            · rcases List.mem_cons.1 hx with rfl | hx
              · exact hd
              · exact ho x (by simp [hx])
            · rcases List.mem_cons.1 hx with rfl | hx
              · exact ho _ (by simp)
              · exact ih (fun x hx => ho x (by simp [hx])) x hx
        exact mem kv hok
      · simp only [Instr.mapUpdate, Sem.run_bind, run_underlying u1, Result.andThen_ok, hget, checkKey_str u2, run_findKey u2 g1, hj, hks, hset]

theorem byteL_tr {own : Bool} : ∀ {xs : List (List D)} {ns : List Int} {vs : List Value} {S : List Nat}, byteL xs = some ns → TrL w own vs xs.flatten S → vs = ns.map (Value.int .u8)
  | [], ns, vs, S, h, ht => by
    simp only [byteL, Option.some.injEq] at h
    subst h
    cases ht
    rfl
  | [.i .u8 n] :: xs, ns, vs, S, h, ht => by
    simp only [byteL, Option.map_eq_some_iff] at h
    obtain ⟨ms, h, rfl⟩ := h
    have ht : TrL w own vs (.i .u8 n :: xs.flatten) S := ht
    cases ht with
    | cons v _ S1 vs _ S2 h1 h2 =>
      rw [byteL_tr h h2, h1.inv_i.1]
      rfl

theorem opB2S_ok (hT : T.ok P = true) (h : RelG B G s a w) {src dst : TypeId} {x : AV} {xv : Value} (hx : AVR w G s.heap (Ban B.F G s.heap) xv x) {av : AV} (hm : opB2S T s.heap src dst x = some av) :
    ∃ v, (convert src dst xv).run P w = .ok v w ∧ AVR w G s.heap (Ban B.F G s.heap) v av := by
  unfold opB2S at hm
  split at hm
  case h_2 => cases hm
  rename_i e k1 k2
  split at hm
  case h_2 => cases hm
  rename_i k3
  simp only [Option.map_eq_some_iff, Tab.kd] at k1 k2 k3
  obtain ⟨t1, e1, k1⟩ := k1
  obtain ⟨t2, e2, k2⟩ := k2
  obtain ⟨t3, e3, k3⟩ := k3
  have u1 := (tiok hT e1).slice k1
  have u2 := (tiok hT e2).str k2
  have u3 := (tiok hT e3).int k3
  simp only [Option.bind_eq_some_iff] at hm
  obtain ⟨d, hb, hm⟩ := hm
  split at hm
  case h_2 => cases hm
  rename_i xs
  simp only [Option.map_eq_some_iff] at hm
  obtain ⟨ns, hns, rfl⟩ := hm
  obtain ⟨S, ht, _, _⟩ := borC_ok h hx hb
  refine ⟨.string (bytesS ns), ?_, .sc rfl (.s _)⟩
  cases ht with
  | z ad c _ _ =>
    rw [run_convert_bytes_string w src dst e ad 0 c u1 u3 u2]
    simp only [byteL, Option.some.injEq] at hns
    subst hns
    cases ad with
    | none => rfl
    | some ad => exact run_bytesToString w ad 0 c [] (by simpa using run_loadCells_list (P := P) w ad [] (by simp))
  | l g o c _ cur el fr vs _ S hg hc hm hl hv h1 hx ho hs =>
    rw [run_convert_bytes_string w src dst e _ _ c u1 u3 u2]
    have hvs := byteL_tr hns hs
    refine run_bytesToString w _ _ c ns ?_
    have := run_loadCells_list (P := P) w ⟨g, o, none⟩ vs (fun j v hj => by rw [add_at, cell_at hg]; exact hv j v hj)
    rw [hl, Nat.mul_one, hvs] at this
    exact this

theorem nilCmp_ok (hT : T.ok P = true) (h : RelG B G s a w) {op : BinOp} {ty : TypeId} {x y : Operand} {neg : Bool} (hc : nilCmp T op ty y = some neg) {xs : List (List D)} {sz : Nat} (hb : borC s.heap (s.ev x) = some (.l sz xs)) :
    ∃ b : Bool, (b = true → xs = []) ∧ (do eqGuard op ty x y (a.eval x) (a.eval y); binOp op ty (a.eval x) (a.eval y) : Sem Value).run P w = .ok (.bool (if neg then !b else b)) w := by
  obtain ⟨S, ht, _, _⟩ := borC_ok h (h.ev x) hb
  have hv : ∃ ad l c, a.eval x = .slice ad l c ∧ (ad.isNone = true → xs = []) := by
    generalize a.eval x = v at ht
    cases ht with
    | z ad c _ _ => exact ⟨ad, 0, c, rfl, fun _ => rfl⟩
    | l g o c _ cur e fr vs _ S hg hc hm hl hv h1 hx ho hs => exact ⟨_, _, c, rfl, fun h => by cases h⟩
  obtain ⟨ad, l, c, hev, hnil⟩ := hv
  unfold nilCmp at hc
  split at hc
  · rename_i e hk
    simp only [Option.some.injEq] at hc
    subst hc
    simp only [Option.map_eq_some_iff, Tab.kd] at hk
    obtain ⟨ti, hti, hk⟩ := hk
    have hu := (tiok hT hti).slice hk
    refine ⟨ad.isNone, hnil, ?_⟩
    rw [hev]
    have hy : a.eval (.const (.slice none 0 0)) = .slice none 0 0 := rfl
    rw [hy]
    simp [eqGuard, binOp, run_equal_slice_nil w ty e ad l c hu]
  · rename_i e hk
    simp only [Option.some.injEq] at hc
    subst hc
    simp only [Option.map_eq_some_iff, Tab.kd] at hk
    obtain ⟨ti, hti, hk⟩ := hk
    have hu := (tiok hT hti).slice hk
    refine ⟨ad.isNone, hnil, ?_⟩
    rw [hev]
    have hy : a.eval (.const (.slice none 0 0)) = .slice none 0 0 := rfl
    rw [hy]
    simp [eqGuard, binOp, run_equal_slice_nil w ty e ad l c hu]
  · cases hc
end rel
end Go.Fs

set_option linter.unusedVariables false
set_option linter.constructorNameAsVariable false
namespace Go.Fs
open Go.RowKit

/-! ### a list that lies in an element of one's own row, taken out: the row keeps a hole -/
mutual
def spA (k ve i o k' sz : Nat) : AV → AV
  | .m j v i' o' => if j = k ∧ v = ve then (if i' = i ∧ o' = o then .r k' else if o' < sz then .m k (ve + 1) i' o' else .x) else .m j v i' o'
  | .g cs => .g (spL k ve i o k' sz cs)
  | .f fn caps => .f fn (spL k ve i o k' sz caps)
  | .t vs => .t (spL k ve i o k' sz vs)
  | .d x => .d x
  | .z n => .z n
  | .r j => .r j
  | .a j o' => .a j o'
  | .e j i' o' => .e j i' o'
  | .q cs o' => .q cs o'
  | .mp j => .mp j
  | .x => .x
def spL (k ve i o k' sz : Nat) : List AV → List AV
  | [] => []
  | a :: as => spA k ve i o k' sz a :: spL k ve i o k' sz as
end
def spOb (k ve i o k' sz : Nat) : Ob → Ob
  | .row sz xs dp fz v => .row sz xs dp fz v
  | .box cs => .box (spL k ve i o k' sz cs)
  | .map kv => .map kv
  | .dead => .dead
def spM (k ve i o k' sz : Nat) : Option Ob → Option Ob
  | some ob => some (spOb k ve i o k' sz ob)
  | none => none
def spH (k ve i o k' sz : Nat) (xs : List (List D)) (z : Nat) (ys : List (List D)) (H : Nat → Option Ob) : Nat → Option Ob := fun j =>
  if j = k' then some (.row z ys true false 0) else if j = k then some (.row sz (setCell xs i o .u) true false (ve + 1)) else spM k ve i o k' sz (H j)
def spS (k ve i o k' sz : Nat) (xs : List (List D)) (z : Nat) (ys : List (List D)) (s : St) : St := { n := s.n, env := fun t => spA k ve i o k' sz (s.env t), heap := spH k ve i o k' sz xs z ys s.heap }

section rel
variable {B : Ctx} {G : Nat → GI} {s : St} {a : Act} {w : World}

theorem ownOf_sp (k ve i o k' sz : Nat) (g : GI) (ob : Ob) : ownOf g (some (spOb k ve i o k' sz ob)) = ownOf g (some ob) := by cases ob <;> rfl

theorem RelG.split (h : RelG B G s a w) {k ve i o k' sz z : Nat} {xs ys : List (List D)} (hk : s.heap k = some (.row sz xs true false ve)) (hi : i < xs.length) (ho : o < sz)
    (hy : (xs.getD i []).getD o .u = .l z ys) (hn : s.heap k' = none) (ha : spA k ve i o k' sz B.aa = B.aa) : ∃ G', RelG B G' (spS k ve i o k' sz xs z ys s) a w := by
  have hrow : RowR w (Ban B.F G s.heap) (G k) sz xs true false := h.obj k _ hk
  obtain ⟨c1, c2, c3, c4, c5, c6, c7, c8, c9, c10⟩ := hrow
  have hkk : k' ≠ k := fun e => by rw [e, hk] at hn; cases hn
  have hcap : (G k).cap ≠ 0 := by omega
  have hcell := cell_get c6 hi ho
  rw [hy] at hcell
  obtain ⟨v, S1, Sm, S2, hv, htr, hsub, hrep⟩ := c7.at hcell
  have hnd : ((G k).blk :: (G k).sub).Nodup := by
    have := h.nodup k
    rw [hk] at this
    simpa [ownOf, hcap] using this
  rw [hsub] at hnd
  -- the list that is taken out
  obtain ⟨gi, hgi1, hgi2, hgi3, hgi4⟩ : ∃ gi : GI, (∀ Av, RowR w Av gi z ys true false) ∧ (∃ a, v = .slice a ys.length gi.cap ∧ (0 < gi.cap → a = some ⟨gi.blk, gi.off, none⟩)) ∧ (∀ b ∈ ownOf gi (some (.row z ys true false 0)), b ∈ Sm) ∧ (ownOf gi (some (.row z ys true false 0))).Nodup := by
    cases htr with
    | z a c _ hc =>
      obtain rfl := hc rfl
      exact ⟨{ blk := 0, off := 0, cap := 0, vs := [], sub := [] }, fun Av => RowR.mkVoid w Av 0 0 z true false, ⟨a, rfl, fun h => absurd h (Nat.lt_irrefl 0)⟩, fun b hb => by simp [ownOf] at hb, by simp [ownOf]⟩
    | l g o' c _ cur e fr vs _ S hg hc hm hl hv' h1 hx ho' hs =>
      have hfr := ho' rfl
      refine ⟨{ blk := g, off := o', cap := c, vs := vs, sub := S }, fun Av => ⟨fun _ => ⟨cur, e, by rw [hg, hfr.1], hfr.2, hv'⟩, hc, hm, hl, h1, hx, hs, fun _ => ?_, (fun h => by rcases h with h | h <;> cases h), (fun h => by cases h)⟩, ⟨_, rfl, fun _ => rfl⟩, fun b hb => ?_, ?_⟩
      · have : (S1 ++ ((g :: S) ++ S2)).Nodup := (List.nodup_cons.1 hnd).2
        have := (List.nodup_append.1 (List.nodup_append.1 this).2.1).1
        exact (List.nodup_cons.1 this).2
      · simp only [ownOf] at hb
        split at hb
        · cases hb
        · simpa using hb
      · have : (S1 ++ ((g :: S) ++ S2)).Nodup := (List.nodup_cons.1 hnd).2
        have := (List.nodup_append.1 (List.nodup_append.1 this).2.1).1
        simp only [ownOf]
        split
        · exact List.nodup_nil
        · simpa using this
  have hgk : ∀ Av : Nat → Prop, RowR w Av { G k with sub := S1 ++ S2 } sz (setCell xs i o .u) true false := fun Av => by
    have hsl : ∃ a len cap, v = .slice a len cap := by
      obtain ⟨a, e, _⟩ := hgi2
      exact ⟨_, _, _, e⟩
    obtain ⟨a1, l1, cp1, hvs⟩ := hsl
    refine ⟨c1, by rw [setCell_len]; exact c2, c3, by rw [setCell_len]; exact c4, c5, setCell_uni c6 hi o .u, ?_, fun _ => ?_, (fun h => by rcases h with h | h <;> cases h), (fun h => by cases h)⟩
    · rw [setCell_flat c6 .u hi ho]
      exact hrep (w' := w) (d' := .u) (Si := []) (by rw [hvs]; exact .u a1 l1 cp1) fun b hb => rfl
    · have h1 := (List.nodup_cons.1 hnd).2
      have h2 := List.nodup_append.1 h1
      have h3 := List.nodup_append.1 h2.2.1
      exact List.nodup_append.2 ⟨h2.1, h3.2.1, fun x hx y hy => h2.2.2 x hx y (List.mem_append_right _ hy)⟩
  have hkk2 : ¬ k = k' := fun e => hkk e.symm
  generalize hG' : (fun j => if j = k' then gi else if j = k then { G k with sub := S1 ++ S2 } else G j : Nat → GI) = G'
  have g1 : G' k' = gi := by rw [← hG']; simp
  have g2 : G' k = { G k with sub := S1 ++ S2 } := by rw [← hG']; simp [hkk2]
  have g3 : ∀ j, j ≠ k' → j ≠ k → G' j = G j := fun j h1 h2 => by rw [← hG']; simp [h1, h2]
  let H' := spH k ve i o k' sz xs z ys s.heap
  have e1 : H' k' = some (.row z ys true false 0) := by simp [H', spH]
  have e2 : H' k = some (.row sz (setCell xs i o .u) true false (ve + 1)) := by simp [H', spH, hkk2]
  have e3 : ∀ j, j ≠ k' → j ≠ k → H' j = spM k ve i o k' sz (s.heap j) := fun j h1 h2 => by simp [H', spH, h1, h2]
  have e4 : ∀ j ob, j ≠ k → s.heap j = some ob → j ≠ k' ∧ H' j = some (spOb k ve i o k' sz ob) := fun j ob hj hob => by
    have : j ≠ k' := fun e => by rw [e, hn] at hob; cases hob
    exact ⟨this, by rw [e3 j this hj, hob]; rfl⟩
  -- what is owned
  have own1 : ∀ b ∈ ownOf gi (some (.row z ys true false 0)), b ∈ ownOf (G k) (s.heap k) := fun b hb => by
    rw [hk]
    simp only [ownOf, if_neg hcap, if_true]
    rw [hsub]
    exact .tail _ (List.mem_append_right _ (List.mem_append_left _ (hgi3 b hb)))
  have own2 : ∀ b ∈ ownOf { G k with sub := S1 ++ S2 } (some (.row sz (setCell xs i o .u) true false (ve + 1))), b ∈ ownOf (G k) (s.heap k) := fun b hb => by
    rw [hk]
    simp only [ownOf, if_neg hcap, if_true] at hb ⊢
    rw [hsub]
    cases hb with
    | head => exact .head _
    | tail _ hb =>
      refine .tail _ ?_
      rcases List.mem_append.1 hb with hb | hb
      · exact List.mem_append_left _ hb
      · exact List.mem_append_right _ (List.mem_append_right _ hb)
  have own3 : ∀ b, b ∈ ownOf gi (some (.row z ys true false 0)) → b ∈ ownOf { G k with sub := S1 ++ S2 } (some (.row sz (setCell xs i o .u) true false (ve + 1))) → False := fun b h1 h2 => by
    have h1 := hgi3 b h1
    simp only [ownOf, if_neg hcap, if_true] at h2
    have hn1 := List.nodup_cons.1 hnd
    cases h2 with
    | head => exact hn1.1 (List.mem_append_right _ (List.mem_append_left _ h1))
    | tail _ h2 =>
      have hn2 := List.nodup_append.1 hn1.2
      rcases List.mem_append.1 h2 with h2 | h2
      · exact hn2.2.2 b h2 b (List.mem_append_left _ h1) rfl
      · exact (List.nodup_append.1 hn2.2.1).2.2 b h1 b h2 rfl
  have ownj : ∀ j b, b ∈ ownOf (G' j) (H' j) → ∃ j0, b ∈ ownOf (G j0) (s.heap j0) ∧ (j ≠ k' → j0 = j) ∧ (j = k' → j0 = k) := fun j b hb => by
    by_cases h1 : j = k'
    · subst h1
      rw [g1, e1] at hb
      exact ⟨k, own1 b hb, fun h => absurd rfl h, fun _ => rfl⟩
    · by_cases h2 : j = k
      · subst h2
        rw [g2, e2] at hb
        exact ⟨j, own2 b hb, fun _ => rfl, fun h => absurd h h1⟩
      · rw [g3 j h1 h2, e3 j h1 h2] at hb
        refine ⟨j, ?_, fun _ => rfl, fun h => absurd h h1⟩
        cases hs : s.heap j with
        | none => rw [hs] at hb; simp [spM, ownOf] at hb
        | some ob => rw [hs] at hb; simp only [spM] at hb; rw [ownOf_sp] at hb; exact hb
  have hA : ∀ b, Ban B.F G' H' b → Ban B.F G s.heap b := by
    rintro b (⟨j, hj⟩ | hf)
    · obtain ⟨j0, hj0, _⟩ := ownj j b hj
      exact .inl ⟨j0, hj0⟩
    · exact .inr hf
  -- values
  have key : ∀ {v' : Value} {av : AV}, AVR w G s.heap (Ban B.F G s.heap) v' av → AVR w G' H' (Ban B.F G' H') v' (spA k ve i o k' sz av) := by
    intro v' av hav
    refine AVR.rec (w := w) (G := G) (H := s.heap) (Av := Ban B.F G s.heap) (motive_1 := fun v' av _ => AVR w G' H' (Ban B.F G' H') v' (spA k ve i o k' sz av)) (motive_2 := fun vs as _ => AVRL w G' H' (Ban B.F G' H') vs (spL k ve i o k' sz as))
      ?_ ?_ ?_ ?_ ?_ ?_ ?_ ?_ ?_ ?_ ?_ ?_ ?_ ?_ ?_ ?_ ?_ ?_ ?_ ?_ hav
    · intro v x S h1 h hS
      exact .d v x S h1 h fun b hb hn => hS b hb (hA b hn)
    · intro sz; exact .z sz
    · intro j sz' xs' dp fz ve' a' hj ha'
      by_cases hjk : j = k
      · subst hjk
        rw [hk] at hj
        cases hj
        have := AVR.r (w := w) (G := G') (H := H') (Av := Ban B.F G' H') j sz (setCell xs i o .u) true false (ve + 1) a' e2 (by rw [g2]; exact ha')
        rw [g2, setCell_len] at this
        exact this
      · obtain ⟨q1, q2⟩ := e4 j _ hjk hj
        have := AVR.r (w := w) (G := G') (H := H') (Av := Ban B.F G' H') j sz' xs' dp fz ve' a' q2 (by rw [g3 j q1 hjk]; exact ha')
        rw [g3 j q1 hjk] at this
        exact this
    · intro j v hj
      have hjk : j ≠ k := fun e => by rw [e, hk] at hj; cases hj
      exact .rd j v (e4 j _ hjk hj).2
    · intro j o' cs hj
      have hjk : j ≠ k := fun e => by rw [e, hk] at hj; cases hj
      obtain ⟨q1, q2⟩ := e4 j _ hjk hj
      have := AVR.a (w := w) (G := G') (H := H') (Av := Ban B.F G' H') j o' _ q2
      rw [g3 j q1 hjk] at this
      exact this
    · intro j o' v hj
      have hjk : j ≠ k := fun e => by rw [e, hk] at hj; cases hj
      exact .ad j o' v (e4 j _ hjk hj).2
    · intro j i' o' sz' xs' dp fz ve' hj hi'
      by_cases hjk : j = k
      · subst hjk
        rw [hk] at hj
        cases hj
        have := AVR.e (w := w) (G := G') (H := H') (Av := Ban B.F G' H') j i' o' sz _ true false (ve + 1) e2 (by rw [setCell_len]; exact hi')
        rw [g2] at this
        exact this
      · obtain ⟨q1, q2⟩ := e4 j _ hjk hj
        have := AVR.e (w := w) (G := G') (H := H') (Av := Ban B.F G' H') j i' o' sz' xs' dp fz ve' q2 hi'
        rw [g3 j q1 hjk] at this
        exact this
    · intro j i' o' v hj
      have hjk : j ≠ k := fun e => by rw [e, hk] at hj; cases hj
      exact .ed j i' o' v (e4 j _ hjk hj).2
    · intro j i' o' sz' xs' dp fz ve' v2 z' ys' hj hjj hv2 h1
      by_cases hjk : j = k
      · subst hjk
        rw [hk] at hj
        cases hj
        simp only [spA, and_self, if_true]
        by_cases hio : i' = i ∧ o' = o
        · rw [if_pos hio]
          obtain ⟨rfl, rfl⟩ := hio
          rw [hv] at hv2
          cases hv2
          obtain ⟨a2, q1, q2⟩ := hgi2
          rw [q1]
          have := AVR.r (w := w) (G := G') (H := H') (Av := Ban B.F G' H') k' z ys true false 0 a2 e1 (by rw [g1]; exact q2)
          rw [g1] at this
          exact this
        · rw [if_neg hio]
          by_cases hos : o' < sz
          rotate_left
          · rw [if_neg hos]; exact .x _
          rw [if_pos hos]
          have hsame : i' * sz + o' ≠ i * sz + o := fun e => hio (by
            have d1 : (i' * sz + o') / sz = i' := by rw [Nat.mul_comm, Nat.mul_add_div (by omega), Nat.div_eq_of_lt hos, Nat.add_zero]
            have d2 : (i * sz + o) / sz = i := by rw [Nat.mul_comm, Nat.mul_add_div (by omega), Nat.div_eq_of_lt ho, Nat.add_zero]
            have d3 : i' = i := by rw [← d1, ← d2, e]
            subst d3
            exact ⟨rfl, by omega⟩)
          · refine .m j i' o' sz _ true false (ve + 1) v2 z' ys' e2 ?_ (by rw [g2]; exact hv2) h1
            rw [setCell_flat c6 .u hi ho, List.getElem?_set_ne (fun e => hsame e.symm)]
            exact hjj
      · obtain ⟨q1, q2⟩ := e4 j _ hjk hj
        simp only [spA]
        rw [if_neg (fun e => hjk e.1)]
        exact .m j i' o' sz' xs' dp fz ve' v2 z' ys' q2 hjj (by rw [g3 j q1 hjk]; exact hv2) h1
    · intro j i' o' sz' xs' dp fz ve1 ve2 v2 hj hlt
      by_cases hjk : j = k
      · subst hjk
        rw [hk] at hj
        cases hj
        simp only [spA]
        rw [if_neg (fun e => by omega)]
        exact .mo j i' o' sz _ true false ve1 (ve + 1) v2 e2 (by omega)
      · obtain ⟨q1, q2⟩ := e4 j _ hjk hj
        simp only [spA]
        rw [if_neg (fun e => hjk e.1)]
        exact .mo j i' o' sz' xs' dp fz ve1 ve2 v2 q2 hlt
    · intro j ve1 i' o' v2 hj
      have hjk : j ≠ k := fun e => by rw [e, hk] at hj; cases hj
      simp only [spA]
      rw [if_neg (fun e => hjk e.1)]
      exact .md j ve1 i' o' v2 (e4 j _ hjk hj).2
    · intro g base o' cur el fr vs cs S hg hv' h1 h hb hS
      exact .q g base o' cur el fr vs cs S hg hv' h1 h (fun hn => hb (hA _ hn)) fun b hb hn => hS b hb (hA b hn)
    · intro cs as _ ih; exact .g cs _ ih
    · intro fn cs as _ ih; exact .f fn cs _ ih
    · intro vs as _ ih; exact .t vs _ ih
    · intro j kv hj
      have hjk : j ≠ k := fun e => by rw [e, hk] at hj; cases hj
      obtain ⟨q1, q2⟩ := e4 j _ hjk hj
      have := AVR.mp (w := w) (G := G') (H := H') (Av := Ban B.F G' H') j kv q2
      rw [g3 j q1 hjk] at this
      exact this
    · intro j v hj
      have hjk : j ≠ k := fun e => by rw [e, hk] at hj; cases hj
      exact .mpd j v (e4 j _ hjk hj).2
    · intro v; exact .x v
    · exact .nil
    · intro v av vs as _ _ ih ihs; exact .cons v _ vs _ ih ihs
  have keyL : ∀ {vs : List Value} {as : List AV}, AVRL w G s.heap (Ban B.F G s.heap) vs as → AVRL w G' H' (Ban B.F G' H') vs (spL k ve i o k' sz as) := fun {vs as} h => by
    have := key (.t vs.toArray as (by simpa using h))
    simp only [spA] at this
    cases this with
    | t _ _ h => simpa using h
  refine ⟨G', ?_, fun t => key (h.env t), h.size, h.defers, fun j => ?_, fun j j' b hb hb' => ?_, fun j b hb => ?_, h.rest, h.below, h.ban, h.base, ?_⟩
  · intro j ob hob
    have hob : H' j = some ob := hob
    by_cases h1 : j = k'
    · subst h1
      rw [e1] at hob
      cases hob
      rw [g1]
      exact hgi1 _
    · by_cases h2 : j = k
      · subst h2
        rw [e2] at hob
        cases hob
        rw [g2]
        exact hgk _
      · rw [e3 j h1 h2] at hob
        rw [g3 j h1 h2]
        cases hs : s.heap j with
        | none => rw [hs] at hob; cases hob
        | some ob' =>
          rw [hs] at hob
          simp only [spM, Option.some.injEq] at hob
          subst hob
          have hob := h.obj j ob' hs
          cases ob' with
          | row sz' xs' dp fz ve' =>
            obtain ⟨c1, c2, c3, c4, c5, c6, c7, c8, c9, c10⟩ := hob
            exact ⟨c1, c2, c3, c4, c5, c6, c7, c8, fun hd b hb hn => c9 hd b hb (hA b hn), fun hf hp hn => c10 hf hp (hA _ hn)⟩
          | box cs =>
            obtain ⟨cur, e, q1, q2, q3⟩ := hob
            exact ⟨cur, e, q1, keyL q2, q3⟩
          | map kv => exact hob
          | dead => trivial
  · show (ownOf (G' j) (H' j)).Nodup
    by_cases h1 : j = k'
    · subst h1
      rw [g1, e1]
      exact hgi4
    · by_cases h2 : j = k
      · subst h2
        rw [g2, e2]
        simp only [ownOf, if_neg hcap, if_true]
        have hn1 := List.nodup_cons.1 hnd
        refine List.nodup_cons.2 ⟨fun hm => hn1.1 ?_, (hgk (fun _ => True)).nodup rfl⟩
        rcases List.mem_append.1 hm with hm | hm
        · exact List.mem_append_left _ hm
        · exact List.mem_append_right _ (List.mem_append_right _ hm)
      · rw [g3 j h1 h2, e3 j h1 h2]
        have := h.nodup j
        cases hs : s.heap j with
        | none => simp [spM, ownOf]
        | some ob => rw [hs] at this; simp only [spM]; rw [ownOf_sp]; exact this
  · have hb : b ∈ ownOf (G' j) (H' j) := hb
    have hb' : b ∈ ownOf (G' j') (H' j') := hb'
    obtain ⟨j0, p1, p2, p3⟩ := ownj j b hb
    obtain ⟨j1, q1, q2, q3⟩ := ownj j' b hb'
    have hjj := h.disj j0 j1 b p1 q1
    by_cases h1 : j = k' <;> by_cases h2 : j' = k'
    · rw [h1, h2]
    · have a1 := p3 h1
      have a2 := q2 h2
      have : j' = k := by rw [← a2, ← hjj, a1]
      subst this
      subst h1
      rw [g1, e1] at hb
      rw [g2, e2] at hb'
      exact (own3 b hb hb').elim
    · have a1 := p2 h1
      have a2 := q3 h2
      have : j = k := by rw [← a1, hjj, a2]
      subst this
      subst h2
      rw [g1, e1] at hb'
      rw [g2, e2] at hb
      exact (own3 b hb' hb).elim
    · rw [← p2 h1, hjj, q2 h2]
  · obtain ⟨j0, p1, _⟩ := ownj j b hb
    exact h.ge j0 b p1
  · have := key h.anc
    rw [ha] at this
    exact this
end rel
end Go.Fs
