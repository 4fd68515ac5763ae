/- A part of the proof: an evaluator of the program's code over plain data, proved sound; the equations of its functions; what they compute. No conditions beyond those in the theorems. -/
import Derived.Laws.BytesString
import Derived.Laws.Cover3
import Derived.Orders
import Derived.Deep.LoopGhost
import Derived.Test.YtkgkoolfobmfnaaGreatDoorP4
set_option linter.unusedVariables false
set_option linter.unusedSimpArgs false
set_option linter.constructorNameAsVariable false
set_option linter.unusedSectionVars false
set_option linter.defProp false
namespace Go.Fs
open Go.RowKit

def kvGet : List (ByteArray × D) → ByteArray → Option D
  | [], _ => none
  | x :: kv, k => if k = x.1 then some x.2 else kvGet kv k
def kvSet : List (ByteArray × D) → ByteArray → D → List (ByteArray × D)
  | [], k, d => [(k, d)]
  | x :: kv, k, d => if k = x.1 then (k, d) :: kv else x :: kvSet kv k d

def opMkMap (T : Tab) (H : Nat → Option Ob) (dst : Nat) (ty : TypeId) : Option (AV × (Nat → Option Ob)) :=
  match H dst with
  | none => some (.mp dst, upd H dst (some (.map [])))
  | _ => none
def opMapSet (T : Tab) (H : Nat → Option Ob) (ty : TypeId) (m k x : AV) : Option (Nat → Option Ob) :=
  match T.mp ty, m, k, x with
  | some _, .mp r, .d (.s key), .d d => if mapv d = true then match H r with
    | some (.map kv) => some (upd H r (some (.map (kvSet kv key d))))
    | _ => none else none
  | _, _, _, _ => none
def opMapGet (T : Tab) (H : Nat → Option Ob) (ty : TypeId) (m k : AV) (ok : Bool) : Option AV :=
  match T.mp ty, m, k with
  | some (_, _, z), .mp r, .d (.s key) => match H r with
    | some (.map kv) => some (if ok then .t [.d ((kvGet kv key).getD z), .d (.b (kvGet kv key).isSome)] else .d ((kvGet kv key).getD z))
    | _ => none
  | _, _, _ => none

/-- A list is asked whether it is nil; the answer: whether 'not' is asked. -/
def nilCmp (T : Tab) (op : BinOp) (ty : TypeId) (y : Operand) : Option Bool := match op, T.kd ty, y with
  | .eql, some (.slice _), .const (.slice none 0 0) => some false
  | .neq, some (.slice _), .const (.slice none 0 0) => some true
  | _, _, _ => none

/-- The bytes of a list of bytes. -/
def byteL : List (List D) → Option (List Int)
  | [] => some []
  | [.i .u8 n] :: xs => (byteL xs).map (n :: ·)
  | _ => none
def bytesS (ns : List Int) : ByteArray := ns.foldl (fun r n => r.push (UInt8.ofNat n.toNat)) ByteArray.empty
def opB2S (T : Tab) (H : Nat → Option Ob) (src dst : TypeId) (x : AV) : Option AV :=
  match T.kd src, T.kd dst with
  | some (.slice e), some .str => match T.kd e with
    | some (.int .u8) => (borC H x).bind fun d => match d with
      | .l 1 xs => (byteL xs).map fun ns => .d (.s (bytesS ns))
      | _ => none
    | _ => none
  | _, _ => none

section rel
variable {P : Program} {T : Tab} {B : Ctx} {G : Nat → GI} {s : St} {a : Act} {w w' : World}

theorem Tab.mp_ok (hT : T.ok P = true) {t k e : TypeId} {z : D} (h : T.mp t = some (k, e, z)) : P.underlying t = some (.map k e) ∧ P.underlying k = some .string ∧ mapv z = true ∧ ∀ w, (zeroValue e).run P w = .ok (scalV z) w := by
  simp only [Tab.ok, Bool.and_eq_true] at hT
  have := List.all_eq_true.1 hT.1.2 _ (lookup_mem h)
  simp only [mapOK, Bool.and_eq_true] at this
  obtain ⟨⟨h0, h1⟩, h2⟩ := this
  refine ⟨?_, ?_, ?_⟩
  · split at h1
    · rename_i k' e' he
      simp only [Bool.and_eq_true, beq_iff_eq] at h1
      rw [he, h1.1, h1.2]
    · cases h1
  · split at h2
    · rename_i he; exact he
    · cases h2
  · split at h0
    case h_2 => cases h0
    rename_i i hi
    split at h0
    case h_2 => cases h0
    rename_i z' hz'
    have hz : scalV z = z' ∧ mapv z = true := by
      unfold zmap at h0
      split at h0
      · simp only [Bool.and_eq_true, beq_iff_eq] at h0
        rw [h0.1, h0.2]; exact ⟨rfl, rfl⟩
      · simp only [beq_iff_eq] at h0
        rw [h0]; exact ⟨rfl, rfl⟩
      · rename_i s s'
        simp only [Bool.and_eq_true, beq_iff_eq] at h0
        have : s = s' := by
          obtain ⟨⟨a⟩⟩ := s
          obtain ⟨⟨b⟩⟩ := s'
          have e1 : a.length = 0 := h0.1
          have e2 : b.length = 0 := h0.2
          rw [List.eq_nil_of_length_eq_zero e1, List.eq_nil_of_length_eq_zero e2]
        rw [this]; exact ⟨rfl, rfl⟩
      · cases h0
    refine ⟨hz.2, fun w => ?_⟩
    rw [hz.1]
    simp [Go.zeroValue, typeInfo, hi, hz']

theorem scalV_tr {own : Bool} {v : Value} {d : D} {S : List Nat} (h : Tr w own v d S) (hm : mapv d = true) : v = scalV d ∧ S = [] := by
  cases h <;> simp_all [mapv, scalV]

theorem tr_scalV {own : Bool} {d : D} (h : mapv d = true) : Tr w own (scalV d) d [] ∧ (scalV d).oneCell' = true := by
  cases d <;> simp_all [mapv, scalV] <;> first | exact ⟨.b _, rfl⟩ | exact ⟨.i _ _, rfl⟩ | exact ⟨.s _, rfl⟩

theorem kvGet_some : ∀ {kv : List (ByteArray × D)} {k : ByteArray} {d : D}, kvGet kv k = some d → (k, d) ∈ kv
  | [], _, _, h => by cases h
  | x :: kv, k, d, h => by
    simp only [kvGet] at h
    split at h
    · rename_i e; subst e; simp only [Option.some.injEq] at h; subst h; simp
    · simp [kvGet_some h]

theorem bbeq (a b : ByteArray) : (a == b) = decide (a = b) := by
  show (a.data == b.data) = _
  by_cases h : a = b
  · subst h; simp
  · have : a.data ≠ b.data := fun e => h (ByteArray.ext e)
    simp [h, this]

theorem findNow_ok (key : ByteArray) : ∀ (es : List MapEntry) (kv : List (ByteArray × D)) (i : Nat), es.map (fun e => (e.key, e.val)) = kv.map (fun x => (Value.string x.1, scalV x.2)) →
    (kvGet kv key = none → Instr.findNow .string (.string key) es i = some none ∧ kvSet kv key = fun d => kv ++ [(key, d)]) ∧
    (∀ d, kvGet kv key = some d → ∃ j, Instr.findNow .string (.string key) es i = some (some (i + j, scalV d)) ∧ (es[j]?).map (·.key) = some (.string key) ∧
      ∀ d', (es.modify j fun e => { e with key := .string key, val := scalV d' }).map (fun e => (e.key, e.val)) = (kvSet kv key d').map (fun x => (Value.string x.1, scalV x.2)))
  | [], [], i, _ => ⟨fun _ => ⟨rfl, rfl⟩, fun d h => by cases h⟩
  | [], _ :: _, i, h => by simp at h
  | _ :: _, [], i, h => by simp at h
  | e :: es, x :: kv, i, h => by
    simp only [List.map_cons, List.cons.injEq, Prod.mk.injEq] at h
    obtain ⟨⟨h1, h2⟩, h3⟩ := h
    obtain ⟨ih1, ih2⟩ := findNow_ok key es kv (i + 1) h3
    by_cases hk : key = x.1
    · subst hk
      refine ⟨fun hn => by simp [kvGet] at hn, fun d hd => ⟨0, ?_, by simp [h1], fun d' => by simp [kvSet, h3]⟩⟩
      simp only [kvGet, if_true, Option.some.injEq] at hd
      subst hd
      simp [Instr.findNow, Instr.sameNow, h1, h2, bbeq]
    · have hb : (key == x.1) = false := by rw [bbeq]; simpa using hk
      have hs : ∀ j, Instr.findNow .string (.string key) (e :: es) j = Instr.findNow .string (.string key) es (j + 1) := fun j => by
        simp [Instr.findNow, Instr.sameNow, h1, hb]
      refine ⟨fun hn => ?_, fun d hd => ?_⟩
      · simp only [kvGet, if_neg hk] at hn
        obtain ⟨a1, a2⟩ := ih1 hn
        refine ⟨by rw [hs]; exact a1, ?_⟩
        funext d
        simp only [kvSet, if_neg hk, a2, List.cons_append]
      · simp only [kvGet, if_neg hk] at hd
        obtain ⟨j, a1, a2, a3⟩ := ih2 d hd
        refine ⟨j + 1, by rw [hs, a1]; congr 3; omega, by simpa using a2, fun d' => ?_⟩
        simp only [kvSet, if_neg hk, List.modify_succ_cons, List.map_cons, List.cons.injEq, Prod.mk.injEq]
        exact ⟨⟨h1, h2⟩, a3 d'⟩

theorem opMkMap_ok (h : RelG B G s a w) {dst : Nat} {ty : TypeId} {av : AV} {H' : Nat → Option Ob} (hm : opMkMap T s.heap dst ty = some (av, H')) :
    ∃ v w' G', (Instr.makeMap ty none).run P w = .ok v w' ∧ RelG B G' { s with heap := H' } a w' ∧ AVR w' G' H' (Ban B.F G' H') v av := by
  simp only [opMkMap] at hm
  split at hm
  case h_2 => cases hm
  rename_i hk
  simp only [Option.some.injEq, Prod.mk.injEq] at hm
  obtain ⟨rfl, rfl⟩ := hm
  let gi : GI := { blk := w.heap.size, off := 0, cap := 0, vs := [], sub := [] }
  have hold : ∀ b, b < w.heap.size → (w.alloc (.map #[] 0)).heap[b]? = w.heap[b]? := fun b hb => heap_alloc_old w _ b hb
  refine ⟨.map (some w.heap.size), w.alloc (.map #[] 0), upd G dst gi, ?_, h.new dst gi (.map []) hk (rest_alloc ..) hold (by simp [ownOf, gi]) (by simp [ownOf]) ⟨⟨#[], 0, heap_alloc_new w _, rfl⟩, by simp⟩, ?_⟩
  · simp [Instr.makeMap]
  · have := AVR.mp (w := w.alloc (.map #[] 0)) (G := upd G dst gi) (H := upd s.heap dst (some (.map []))) (Av := Ban B.F (upd G dst gi) (upd s.heap dst (some (.map [])))) dst [] (upd_same ..)
    rw [upd_same] at this
    exact this

theorem AVR.inv_s {H : Nat → Option Ob} {Av : Nat → Prop} {v : Value} {x : ByteArray} (h : AVR w G H Av v (.d (.s x))) : v = .string x := by
  cases h with
  | d _ _ S h1 h _ => exact h.inv_s.1

theorem checkKey_str {k : TypeId} (hk : P.underlying k = some .string) (e : Bool) (x : ByteArray) : (Instr.checkKey e 10000 k (.string x)).run P w = .ok () w := by
  show (Instr.checkKey e (9999 + 1) k (.string x)).run P w = .ok () w
  rw [Instr.checkKey]
  simp only [Sem.run_bind, run_underlying hk, Result.andThen_ok]
  rfl

theorem run_findKey {kt : TypeId} (hk : P.underlying kt = some .string) {key : ByteArray} {es : List MapEntry} {r : Option (Nat × Value)} (h : Instr.findNow .string (.string key) es 0 = some r) : (Instr.findKey kt (.string key) es).run P w = .ok r w := by
  simp only [Instr.findKey, Sem.run_bind, run_underlying hk, Result.andThen_ok, h]
  rfl

theorem opMapGet_ok (hT : T.ok P = true) (h : RelG B G s a w) {ty : TypeId} {m k : AV} {mv kv' : Value} (hmv : AVR w G s.heap (Ban B.F G s.heap) mv m) (hkv : AVR w G s.heap (Ban B.F G s.heap) kv' k) {ok : Bool} {av : AV} (hm : opMapGet T s.heap ty m k ok = some av) :
    ∃ v, (Instr.lookup ty mv kv' ok).run P w = .ok v w ∧ AVR w G s.heap (Ban B.F G s.heap) v av := by
  unfold opMapGet at hm
  split at hm
  case h_2 => cases hm
  rename_i kt e z r key hmp
  split at hm
  case h_2 => cases hm
  rename_i kv hr
  simp only [Option.some.injEq] at hm
  obtain ⟨u1, u2, u3, u4⟩ := Tab.mp_ok hT hmp
  obtain rfl := hkv.inv_s
  have hM : MapR w (G r) kv := h.obj r _ hr
  obtain ⟨⟨es, clock, hg, hes⟩, hok⟩ := hM
  cases hmv with
  | mpd _ _ hk => rw [hr] at hk; cases hk
  | mp _ kv2 hk =>
    have hget : (getObj (G r).blk).run P w = .ok (.map es clock) w := by simp [getObj, Sem.run, hg]
    obtain ⟨f1, f2⟩ := findNow_ok key es.toList kv 0 hes
    have fin : ∀ (d : D) (b : Bool), mapv d = true → AVR w G s.heap (Ban B.F G s.heap) (if ok then .tuple #[scalV d, .bool b] else scalV d) (if ok then .t [.d d, .d (.b b)] else .d d) := by
      intro d b hd
      obtain ⟨q1, q2⟩ := tr_scalV (w := w) (own := false) hd
      cases ok with
      | true => exact .t _ _ (.cons _ _ _ _ (.sc q2 q1) (.cons _ _ _ _ (.sc rfl (.b _)) .nil))
      | false => exact .sc q2 q1
    cases hgk : kvGet kv key with
    | none =>
      rw [hgk] at hm
      subst hm
      refine ⟨if ok then .tuple #[scalV z, .bool false] else scalV z, ?_, fin z false u3⟩
      simp [Instr.lookup, run_underlying u1, hget, checkKey_str u2, run_findKey u2 (f1 hgk).1, u4]
    | some d =>
      rw [hgk] at hm
      subst hm
      obtain ⟨j, g1, g2, g3⟩ := f2 d hgk
      refine ⟨if ok then .tuple #[scalV d, .bool true] else scalV d, ?_, fin d true (hok _ (kvGet_some hgk))⟩
      have g1 := run_findKey (P := P) (w := w) u2 g1
      simp [Instr.lookup, run_underlying u1, hget, checkKey_str u2, g1]

theorem setBlock_heap_ne {w : World} {r b : Nat} {o : Obj} (h : b ≠ r) : ({ w with heap := w.heap.setIfInBounds r o } : World).heap[b]? = w.heap[b]? := by
  simp [Array.getElem?_setIfInBounds_ne (Ne.symm h)]

theorem opMapSet_ok (hT : T.ok P = true) (h : RelG B G s a w) {ty : TypeId} {m k x : AV} {mv kv' xv : Value} (hmv : AVR w G s.heap (Ban B.F G s.heap) mv m) (hkv : AVR w G s.heap (Ban B.F G s.heap) kv' k) (hxv : AVR w G s.heap (Ban B.F G s.heap) xv x) {H' : Nat → Option Ob} (hm : opMapSet T s.heap ty m k x = some H') :
    ∃ w' G', (Instr.mapUpdate ty mv kv' xv).run P w = .ok () w' ∧ RelG B G' { s with heap := H' } a w' := by
  unfold opMapSet at hm
  split at hm
  case h_2 => cases hm
  rename_i p r key d hmp
  obtain ⟨kt, e, z⟩ := p
  split at hm
  case isFalse => cases hm
  rename_i hd
  split at hm
  case h_2 => cases hm
  rename_i kv hr
  simp only [Option.some.injEq] at hm
  obtain ⟨u1, u2, u3, u4⟩ := Tab.mp_ok hT hmp
  obtain rfl := hkv.inv_s
  obtain rfl : xv = scalV d := by
    cases hxv with
    | d _ _ S h1 ht _ => exact (scalV_tr ht hd).1
  have hM : MapR w (G r) kv := h.obj r _ hr
  obtain ⟨⟨es, clock, hg, hes⟩, hok⟩ := hM
  have hlt := (Array.getElem?_eq_some_iff.1 hg).1
  have hown : (G r).blk ∈ ownOf (G r) (s.heap r) := by rw [hr]; simp [ownOf]
  have go : ∀ (es' : Array MapEntry) (c' : Nat) (kv2 : List (ByteArray × D)), es'.toList.map (fun e => (e.key, e.val)) = kv2.map (fun x => (Value.string x.1, scalV x.2)) → (∀ x ∈ kv2, mapv x.2 = true) →
      (Instr.mapUpdate ty (.map (some (G r).blk)) (.string key) (scalV d)).run P w = .ok () { w with heap := w.heap.setIfInBounds (G r).blk (.map es' c') } → upd s.heap r (some (.map kv2)) = H' →
      ∃ w' G', (Instr.mapUpdate ty (.map (some (G r).blk)) (.string key) (scalV d)).run P w = .ok () w' ∧ RelG B G' { s with heap := H' } a w' := by
    intro es' c' kv2 h1 h2 h3 h4
    subst h4
    refine ⟨_, G, h3, ?_⟩
    refine h.step (w' := { w with heap := w.heap.setIfInBounds (G r).blk (.map es' c') }) (G' := G) (upd s.heap r (some (.map kv2))) (fun i => i = r) ⟨rfl, rfl, rfl, by simp⟩ ?_ (fun i hi => ⟨upd_ne _ _ hi, rfl⟩) ?_ ?_ ?_ ?_ ?_
    · intro b hb hn
      exact setBlock_heap_ne fun e => hn r rfl (by rw [e]; exact hown)
    · rintro i o rfl ho
      rw [hr] at ho; cases ho
      exact ⟨_, upd_same .., .map _ _ rfl⟩
    · rintro i rfl b hb
      rw [upd_same] at hb
      refine .inl ⟨i, rfl, ?_⟩
      rw [hr]; exact hb
    · rintro i rfl; rw [upd_same]; simp [ownOf]
    · rintro i j rfl rfl _ _ _; rfl
    · rintro i o rfl ho
      rw [upd_same] at ho
      cases ho
      exact ⟨⟨es', c', by simp [hlt], h1⟩, h2⟩
  have hset : ∀ (o' : Obj), (setObj (G r).blk o').run P w = .ok () { w with heap := w.heap.setIfInBounds (G r).blk o' } := fun o' => by
    simp [setObj, Sem.run, hg]
  have hget : (getObj (G r).blk).run P w = .ok (.map es clock) w := by simp [getObj, Sem.run, hg]
  obtain ⟨f1, f2⟩ := findNow_ok key es.toList kv 0 hes
  cases hmv with
  | mpd _ _ hk => rw [hr] at hk; cases hk
  | mp _ kv2 hk =>
    cases hgk : kvGet kv key with
    | none =>
      obtain ⟨g1, g2⟩ := f1 hgk
      refine go (es.push { key := .string key, val := scalV d, born := clock }) (clock + 1) (kvSet kv key d) ?_ ?_ ?_ hm
      · rw [g2]; simp [hes]
      · rw [g2]
        intro x hx
        rcases List.mem_append.1 hx with hx | hx
        · exact hok x hx
        · obtain rfl : x = (key, d) := by simpa using hx
          exact hd
      · simp only [Instr.mapUpdate, Sem.run_bind, run_underlying u1, Result.andThen_ok, hget, checkKey_str u2, run_findKey u2 g1, hset]
    | some d0 =>
      obtain ⟨j, g1, g2, g3⟩ := f2 d0 hgk
      have hj : ((es[0 + j]?).map (·.key)).getD (.string key) = .string key := by
        rw [← Array.getElem?_toList, Nat.zero_add, g2]; rfl
      have hks : (Instr.keyThatStays (.string key) (.string key)).run P w = .ok (.string key) w := by
        have : Instr.sameBits 10000 (.string key) (.string key) = true := by
          show Instr.sameBits (9999 + 1) _ _ = true
          simp [Instr.sameBits, bbeq]
        simp only [Instr.keyThatStays, this, if_true]
        rfl
      refine go (es.modify (0 + j) fun e => { e with key := .string key, val := scalV d }) clock (kvSet kv key d) ?_ ?_ ?_ hm
      · rw [Nat.zero_add, ← g3 d]; simp
      · have mem : ∀ (kv : List (ByteArray × D)), (∀ x ∈ kv, mapv x.2 = true) → ∀ x ∈ kvSet kv key d, mapv x.2 = true := by
          intro kv
          induction kv with
          | nil => intro _ x hx; obtain rfl : x = (key, d) := by simpa [kvSet] using hx
                   exact hd
          | cons y kv ih =>
            intro ho x hx
            simp only [kvSet] at hx
            split at hx
            · rcases List.mem_cons.1 hx with rfl | hx
              · exact hd
              · exact ho x (by simp [hx])
            · rcases List.mem_cons.1 hx with rfl | hx
              · exact ho _ (by simp)
              · exact ih (fun x hx => ho x (by simp [hx])) x hx
        exact mem kv hok
      · simp only [Instr.mapUpdate, Sem.run_bind, run_underlying u1, Result.andThen_ok, hget, checkKey_str u2, run_findKey u2 g1, hj, hks, hset]

theorem byteL_tr {own : Bool} : ∀ {xs : List (List D)} {ns : List Int} {vs : List Value} {S : List Nat}, byteL xs = some ns → TrL w own vs xs.flatten S → vs = ns.map (Value.int .u8)
  | [], ns, vs, S, h, ht => by
    simp only [byteL, Option.some.injEq] at h
    subst h
    cases ht
    rfl
  | [.i .u8 n] :: xs, ns, vs, S, h, ht => by
    simp only [byteL, Option.map_eq_some_iff] at h
    obtain ⟨ms, h, rfl⟩ := h
    have ht : TrL w own vs (.i .u8 n :: xs.flatten) S := ht
    cases ht with
    | cons v _ S1 vs _ S2 h1 h2 =>
      rw [byteL_tr h h2, h1.inv_i.1]
      rfl

theorem opB2S_ok (hT : T.ok P = true) (h : RelG B G s a w) {src dst : TypeId} {x : AV} {xv : Value} (hx : AVR w G s.heap (Ban B.F G s.heap) xv x) {av : AV} (hm : opB2S T s.heap src dst x = some av) :
    ∃ v, (convert src dst xv).run P w = .ok v w ∧ AVR w G s.heap (Ban B.F G s.heap) v av := by
  unfold opB2S at hm
  split at hm
  case h_2 => cases hm
  rename_i e k1 k2
  split at hm
  case h_2 => cases hm
  rename_i k3
  simp only [Option.map_eq_some_iff, Tab.kd] at k1 k2 k3
  obtain ⟨t1, e1, k1⟩ := k1
  obtain ⟨t2, e2, k2⟩ := k2
  obtain ⟨t3, e3, k3⟩ := k3
  have u1 := (tiok hT e1).slice k1
  have u2 := (tiok hT e2).str k2
  have u3 := (tiok hT e3).int k3
  simp only [Option.bind_eq_some_iff] at hm
  obtain ⟨d, hb, hm⟩ := hm
  split at hm
  case h_2 => cases hm
  rename_i xs
  simp only [Option.map_eq_some_iff] at hm
  obtain ⟨ns, hns, rfl⟩ := hm
  obtain ⟨S, ht, _, _⟩ := borC_ok h hx hb
  refine ⟨.string (bytesS ns), ?_, .sc rfl (.s _)⟩
  cases ht with
  | z ad c _ _ =>
    rw [run_convert_bytes_string w src dst e ad 0 c u1 u3 u2]
    simp only [byteL, Option.some.injEq] at hns
    subst hns
    cases ad with
    | none => rfl
    | some ad => exact run_bytesToString w ad 0 c [] (by simpa using run_loadCells_list (P := P) w ad [] (by simp))
  | l g o c _ cur el fr vs _ S hg hc hm hl hv h1 hx ho hs =>
    rw [run_convert_bytes_string w src dst e _ _ c u1 u3 u2]
    have hvs := byteL_tr hns hs
    refine run_bytesToString w _ _ c ns ?_
    have := run_loadCells_list (P := P) w ⟨g, o, none⟩ vs (fun j v hj => by rw [add_at, cell_at hg]; exact hv j v hj)
    rw [hl, Nat.mul_one, hvs] at this
    exact this

theorem nilCmp_ok (hT : T.ok P = true) (h : RelG B G s a w) {op : BinOp} {ty : TypeId} {x y : Operand} {neg : Bool} (hc : nilCmp T op ty y = some neg) {xs : List (List D)} {sz : Nat} (hb : borC s.heap (s.ev x) = some (.l sz xs)) :
    ∃ b : Bool, (b = true → xs = []) ∧ (do eqGuard op ty x y (a.eval x) (a.eval y); binOp op ty (a.eval x) (a.eval y) : Sem Value).run P w = .ok (.bool (if neg then !b else b)) w := by
  obtain ⟨S, ht, _, _⟩ := borC_ok h (h.ev x) hb
  have hv : ∃ ad l c, a.eval x = .slice ad l c ∧ (ad.isNone = true → xs = []) := by
    generalize a.eval x = v at ht
    cases ht with
    | z ad c _ _ => exact ⟨ad, 0, c, rfl, fun _ => rfl⟩
    | l g o c _ cur e fr vs _ S hg hc hm hl hv h1 hx ho hs => exact ⟨_, _, c, rfl, fun h => by cases h⟩
  obtain ⟨ad, l, c, hev, hnil⟩ := hv
  unfold nilCmp at hc
  split at hc
  · rename_i e hk
    simp only [Option.some.injEq] at hc
    subst hc
    simp only [Option.map_eq_some_iff, Tab.kd] at hk
    obtain ⟨ti, hti, hk⟩ := hk
    have hu := (tiok hT hti).slice hk
    refine ⟨ad.isNone, hnil, ?_⟩
    rw [hev]
    have hy : a.eval (.const (.slice none 0 0)) = .slice none 0 0 := rfl
    rw [hy]
    simp [eqGuard, binOp, run_equal_slice_nil w ty e ad l c hu]
  · rename_i e hk
    simp only [Option.some.injEq] at hc
    subst hc
    simp only [Option.map_eq_some_iff, Tab.kd] at hk
    obtain ⟨ti, hti, hk⟩ := hk
    have hu := (tiok hT hti).slice hk
    refine ⟨ad.isNone, hnil, ?_⟩
    rw [hev]
    have hy : a.eval (.const (.slice none 0 0)) = .slice none 0 0 := rfl
    rw [hy]
    simp [eqGuard, binOp, run_equal_slice_nil w ty e ad l c hu]
  · cases hc
end rel
end Go.Fs
namespace Go.Fs
open Go.RowKit

mutual
def spA (k ve i o k' sz : Nat) : AV → AV
  | .m j v i' o' => if j = k ∧ v = ve then (if i' = i ∧ o' = o then .r k' else if o' < sz then .m k (ve + 1) i' o' else .x) else .m j v i' o'
  | .g cs => .g (spL k ve i o k' sz cs)
  | .f fn caps => .f fn (spL k ve i o k' sz caps)
  | .t vs => .t (spL k ve i o k' sz vs)
  | .d x => .d x
  | .z n => .z n
  | .r j => .r j
  | .a j o' => .a j o'
  | .e j i' o' => .e j i' o'
  | .q cs o' => .q cs o'
  | .mp j => .mp j
  | .x => .x
  | .nl => .nl
  | .bp j => .bp j
def spL (k ve i o k' sz : Nat) : List AV → List AV
  | [] => []
  | a :: as => spA k ve i o k' sz a :: spL k ve i o k' sz as
end

section rel
variable {B : Ctx} {G : Nat → GI} {s : St} {a : Act} {w : World}


end rel
end Go.Fs
namespace Go.Fs
open Go.RowKit

def OkO {α : Type} (o : Option α) (K : α → Prop) : Prop := match o with
  | some a => K a
  | none => False
def splitB (v : Bool) (X Y : Prop) : Prop := match v with
  | true => X
  | false => Y
def envL (L : List (Nat × AV)) : Nat → AV := L.foldr (fun x f => upd f x.1 x.2) fun _ => .x
def obL (L : List (Nat × Option Ob)) : Nat → Option Ob := L.foldr (fun x f => upd f x.1 x.2) fun _ => none
def updL (L : List (Nat × Ob)) (H : Nat → Option Ob) : Nat → Option Ob := L.foldr (fun x f => upd f x.1 (some x.2)) H
def wkS (live : List Nat) (ren : List (Nat × Nat)) (s : St) : St :=
  { n := s.n, env := envL (live.map fun t => (t, mapA ren (s.env t))), heap := obL (ren.map fun x => (x.2, match s.heap x.1 with | some o => some (mapOb ren o) | none => none)) }

theorem wkS_eq (live : List Nat) (ren : List (Nat × Nat)) (s : St) : wkS live ren s = wk live ren s := by
  have e1 : ∀ (f : Nat → AV) (t : Nat), envL (live.map fun t => (t, f t)) t = if live.contains t then f t else .x := by
    intro f t
    induction live with
    | nil => rfl
    | cons x xs ih =>
      simp only [envL, List.map_cons, List.foldr_cons, upd, List.contains_cons] at ih ⊢
      by_cases e : t = x
      · subst e; simp
      · simp [e]; simpa using ih
  have e2 : ∀ (f : Nat → Option Ob) (k : Nat), obL (ren.map fun x => (x.2, f x.1)) k = match oldK ren k with | some k0 => f k0 | none => none := by
    intro f k
    induction ren with
    | nil => rfl
    | cons x xs ih =>
      simp only [obL, oldK, List.map_cons, List.foldr_cons, upd, List.lookup_cons] at ih ⊢
      by_cases e : k = x.2
      · subst e; simp
      · have e' : (k == x.2) = false := by simpa using e
        rw [if_neg e, e']
        exact ih
  unfold wkS wk
  congr 1
  · funext t; exact e1 _ t
  · funext k
    have := e2 (fun k => match s.heap k with | some o => some (mapOb ren o) | none => none) k
    exact this

theorem updL_eq (L : List (Nat × Ob)) (H : Nat → Option Ob) : updL L H = ovr L H := by
  funext k
  induction L with
  | nil => rfl
  | cons x xs ih =>
    obtain ⟨j, o⟩ := x
    simp only [updL, ovr, List.foldr_cons, upd, List.lookup_cons] at ih ⊢
    by_cases e : k = j
    · subst e; simp
    · have e' : (k == j) = false := by simpa using e
      rw [if_neg e, e']
      exact ih

/-- What is known of a function. -/
inductive Summ where
  | own (F : List D → Option D)
  | shared (F : List D → Option D)
  | io (F : D → List D → Option (D × D))
  | eat (F : D → List D → Option D)
  | box (F : D → List D → Option (D × D))
  | bld (F : ByteArray → List D → Option (D × Option ByteArray))

def SumOK (P : Program) (S : Nat → Option Summ) : Prop := ∀ f s, S f = some s → match s with
  | .own F => ∀ ds r, F ds = some r → FnOK P f (ds.map .d) { ret := r }
  | .shared F => ∀ ds r, F ds = some r → FnOK P f (ds.map .d) { ret := r, deep := false }
  | .io F => ∀ x ds r, F x ds = some r → FnOK P f (.io x :: ds.map .d) { ret := r.1, io := some r.2 }
  | .eat F => ∀ x ds r, F x ds = some r → FnOK P f (.io x :: ds.map .d) { ret := r }
  | .box F => ∀ x ds r, F x ds = some r → FnOK P f (.io x :: ds.map .d) { ret := r.1, io := some r.2 }
  | .bld F => ∀ s ds r, F s ds = some r → BdOK P f s ds r

structure Env where
  T : Tab
  S : Nat → Option Summ
  aa : AV

def putK (s : St) (dst : Option Nat) (av : AV) (H : Nat → Option Ob) (K : St → Prop) : Prop := match dst with
  | some d => d < s.n ∧ K { n := s.n, env := upd s.env d av, heap := H }
  | none => K { n := s.n, env := s.env, heap := H }
def keyOf (dst : Option Nat) : Nat := match dst with
  | some d => 100000 + 100 * d
  | none => 99000
def freeAll (H : Nat → Option Ob) : List (Nat × Ob) → Bool
  | [] => true
  | x :: xs => (match H x.1 with | none => true | some _ => false) && freeAll H xs
def apart (ks js : List Nat) : Bool := ks.all fun k => !js.contains k
def thenF {α β : Type} (F : α → Option β) (K : β → Prop) (a : α) : Prop := OkO (F a) K
def ownK (s : St) (dst : Option Nat) (K : St → Prop) (r : D) : Prop := freeAll s.heap (adObs (keyOf dst) (partsD r)) = true ∧
  putK s dst (retAV r (adCells (keyOf dst) (partsD r))) (updL (adObs (keyOf dst) (partsD r)) s.heap) K
def sharedK2 (s : St) (dst : Option Nat) (H1 : Nat → Option Ob) (K : St → Prop) (r : D) : Prop := putK s dst (retAV r ((partsD r).map .d)) H1 K
def sharedK (s : St) (dst : Option Nat) (F : List D → Option D) (args : List AV) (K : St → Prop) (H1 : Nat → Option Ob) : Prop := args.flatMap (keyA H1) = args.flatMap (keyA s.heap) ∧ OkO (borL H1 args) (thenF F (sharedK2 s dst H1 K))
def nestK (s : St) (dst : Option Nat) (k i o sz ve : Nat) (xs : List (List D)) (rest : List AV) (K : St → Prop) (r : D × D) : Prop := apart [k] (rest.flatMap (keyA s.heap)) = true ∧
  freeAll s.heap (adObs (keyOf dst) (partsD r.1)) = true ∧
  putK s dst (retAV r.1 (adCells (keyOf dst) (partsD r.1))) (updL ((k, .row sz (setCell xs i o r.2) true false (ve + 1)) :: adObs (keyOf dst) (partsD r.1)) s.heap) K
def ioK3 (s : St) (dst : Option Nat) (r : D × D) (K : St → Prop) (os : List (Nat × Ob)) : Prop := freeAll s.heap (adObs (keyOf dst) (partsD r.1)) = true ∧
  putK s dst (retAV r.1 (adCells (keyOf dst) (partsD r.1))) (updL (os ++ adObs (keyOf dst) (partsD r.1)) s.heap) K
def ioK2 (s : St) (dst : Option Nat) (io : AV) (ks : List Nat) (rest : List AV) (K : St → Prop) (r : D × D) : Prop := nodupB ks = true ∧ apart ks (rest.flatMap (keyA s.heap)) = true ∧
  OkO (ioObs s.heap (cellsA io) (cellsD r.2)) (ioK3 s dst r K)
def ioK (s : St) (dst : Option Nat) (F : D → List D → Option (D × D)) (io : AV) (rest : List AV) (K : St → Prop) (x : List D × List Nat) : Prop := OkO (borL s.heap rest) (thenF (F (ioD io x.1)) (ioK2 s dst io x.2 rest K))
def eatR (H : Nat → Option Ob) (dst : Option Nat) (ks : List Nat) (rest : List AV) (r : D) : Option (AV × List (Nat × Ob)) :=
  if nodupB ks = true then if apart ks (rest.flatMap (keyA H)) = true then if freeAll H (adObs (keyOf dst) (partsD r)) = true then
    some (retAV r (adCells (keyOf dst) (partsD r)), ks.map (fun k => (k, Ob.dead)) ++ adObs (keyOf dst) (partsD r)) else none else none else none
def eatC (H : Nat → Option Ob) (dst : Option Nat) (F : D → List D → Option D) : List AV → Option (AV × List (Nat × Ob))
  | [] => none
  | io :: rest => (ioCs H (cellsA io)).bind fun x => (borL H rest).bind fun ds => (F (ioD io x.1) ds).bind (eatR H dst x.2 rest)
theorem eatC_inv {H : Nat → Option Ob} {dst : Option Nat} {F : D → List D → Option D} {args : List AV} {y : AV × List (Nat × Ob)} (h : eatC H dst F args = some y) :
    ∃ x ds r, F x ds = some r ∧ ∀ F' : D → List D → Option D, F' x ds = some r → eatC H dst F' args = some y := by
  unfold eatC at h
  split at h
  · cases h
  rename_i io rest
  obtain ⟨x, hx, h⟩ := Option.bind_eq_some_iff.1 h
  obtain ⟨ds, hb, h⟩ := Option.bind_eq_some_iff.1 h
  obtain ⟨r, hr, h⟩ := Option.bind_eq_some_iff.1 h
  refine ⟨_, _, r, hr, fun F' hr' => ?_⟩
  simp only [eatC, hx, Option.bind_some, hb, hr', h]
/-- A call that is handed a variable, and writes it. -/
def bxR (H : Nat → Option Ob) (dst : Option Nat) (k : Nat) (ks : List Nat) (rest : List AV) (r : D × D) : Option (AV × List (Nat × Ob)) := match r.2 with
  | .p y => if nodupB (k :: ks) = true then if apart (k :: ks) (rest.flatMap (keyA H)) = true then
      if freeAll H (adObs (keyOf dst + 50) y ++ adObs (keyOf dst) (partsD r.1)) = true then
      if apart ((adObs (keyOf dst + 50) y).map (·.1)) ((adObs (keyOf dst) (partsD r.1)).map (·.1)) = true then
        some (retAV r.1 (adCells (keyOf dst) (partsD r.1)), bxObs k ks (keyOf dst + 50) y (keyOf dst) r.1) else none else none else none else none
  | _ => none
def bxC (H : Nat → Option Ob) (dst : Option Nat) (F : D → List D → Option (D × D)) : List AV → Option (AV × List (Nat × Ob))
  | .a k 0 :: rest => match H k with
    | some (.box cs) => (ioCs H cs).bind fun x => (borL H rest).bind fun ds => (F (.p x.1) ds).bind (bxR H dst k x.2 rest)
    | _ => none
  | _ => none
theorem bxC_inv {H : Nat → Option Ob} {dst : Option Nat} {F : D → List D → Option (D × D)} {args : List AV} {y : AV × List (Nat × Ob)} (h : bxC H dst F args = some y) :
    ∃ x ds r, F x ds = some r ∧ ∀ F' : D → List D → Option (D × D), F' x ds = some r → bxC H dst F' args = some y := by
  unfold bxC at h
  split at h
  case h_2 => cases h
  rename_i k rest
  split at h
  case h_2 => cases h
  rename_i cs hk
  obtain ⟨x, hx, h⟩ := Option.bind_eq_some_iff.1 h
  obtain ⟨ds, hb, h⟩ := Option.bind_eq_some_iff.1 h
  obtain ⟨r, hr, h⟩ := Option.bind_eq_some_iff.1 h
  refine ⟨_, _, r, hr, fun F' hr' => ?_⟩
  simp only [bxC, hk, hx, Option.bind_some, hb, hr', h]
/-- A call that is handed a builder of a text. -/
def bdR (k : Nat) (r : D × Option ByteArray) : Option (AV × List (Nat × Ob)) := some (retAV r.1 ((partsD r.1).map .d), [(k, bdOb r.2)])
def bdC (H : Nat → Option Ob) (F : ByteArray → List D → Option (D × Option ByteArray)) : List AV → Option (AV × List (Nat × Ob))
  | .bp k :: rest => match H k with
    | some (.bld s) => (borL H rest).bind fun ds => (F s ds).bind (bdR k)
    | _ => none
  | _ => none
theorem bdC_inv {H : Nat → Option Ob} {F : ByteArray → List D → Option (D × Option ByteArray)} {args : List AV} {y : AV × List (Nat × Ob)} (h : bdC H F args = some y) :
    ∃ x ds r, F x ds = some r ∧ ∀ F' : ByteArray → List D → Option (D × Option ByteArray), F' x ds = some r → bdC H F' args = some y := by
  unfold bdC at h
  split at h
  case h_2 => cases h
  rename_i k rest
  split at h
  case h_2 => cases h
  rename_i s hk
  obtain ⟨ds, hb, h⟩ := Option.bind_eq_some_iff.1 h
  obtain ⟨r, hr, h⟩ := Option.bind_eq_some_iff.1 h
  refine ⟨_, _, r, hr, fun F' hr' => ?_⟩
  simp only [bdC, hk, Option.bind_some, hb, hr', h]
def eatK (s : St) (dst : Option Nat) (K : St → Prop) (y : AV × List (Nat × Ob)) : Prop := putK s dst y.1 (updL y.2 s.heap) K
def callW (A : Env) (s : St) (dst : Option Nat) (f : FuncId) (args : List AV) (K : St → Prop) : Prop := match A.S f with
  | none => False
  | some (.own F) => OkO (borL s.heap args) (thenF F (ownK s dst K))
  | some (.shared F) => OkO (frzL s.heap (args.flatMap (keyA s.heap))) (sharedK s dst F args K)
  | some (.io F) => match args with
    | [] => False
    | .m k ve i o :: rest => match s.heap k with
      | some (.row sz xs true false ve') => (ve' = ve ∧ i < xs.length ∧ o < sz) ∧ OkO (borL s.heap rest) (thenF (F ((xs.getD i []).getD o .u)) (nestK s dst k i o sz ve' xs rest K))
      | _ => False
    | io :: rest => OkO (ioCs s.heap (cellsA io)) (ioK s dst F io rest K)
  | some (.eat F) => OkO (eatC s.heap dst F args) (eatK s dst K)
  | some (.box F) => OkO (bxC s.heap dst F args) (eatK s dst K)
  | some (.bld F) => OkO (bdC s.heap F args) (eatK s dst K)

/-- What a function value holds is of one cell each. -/
def capsOK : List D → Bool
  | [] => true
  | .g _ :: _ => false
  | .t _ :: _ => false
  | _ :: ds => capsOK ds
theorem tr_one {w : World} {own : Bool} {v : Value} {d : D} {S : List Nat} (h : Tr w own v d S) (h1 : ∀ cs, d ≠ .g cs) (h2 : ∀ vs, d ≠ .t vs) : v.oneCell' = true := by
  cases h with
  | g cs ds S h => exact absurd rfl (h1 _)
  | t vs ds S h => exact absurd rfl (h2 _)
  | _ => rfl
theorem caps_avrl {w : World} {G : Nat → GI} {H : Nat → Option Ob} {Av : Nat → Prop} : ∀ {vs : List Value} {ds : List D} {S : List Nat}, TrL w false vs ds S → capsOK ds = true → (∀ b ∈ S, ¬ Av b) → AVRL w G H Av vs (ds.map .d)
  | _, _, _, .nil, _, _ => .nil
  | _, _, _, .cons v d S vs ds Ss h hs, hc, hS => by
    have h1 : (∀ cs, d ≠ .g cs) ∧ (∀ vs, d ≠ .t vs) ∧ capsOK ds = true := by
      cases d <;> simp_all [capsOK]
    exact .cons _ _ _ _ (.d v d S (tr_one h h1.1 h1.2.1) h fun b hb => hS b (by simp [hb])) (caps_avrl hs h1.2.2 fun b hb => hS b (by simp [hb]))

def zargs (T : Tab) (s : St) : List Operand → List TypeId → List AV
  | [], _ => []
  | x :: xs, [] => s.ev x :: zargs T s xs []
  | x :: xs, t :: ts => fixZ T t (s.ev x) :: zargs T s xs ts

def litS (s : St) (x : Operand) (b : Bool) : St := match x with
  | .tmp t => { n := s.n, env := upd s.env t (.d (.b b)), heap := s.heap }
  | _ => s

def valK (s : St) (dst : Option Nat) (K : St → Prop) (y : AV × (Nat → Option Ob)) : Prop := putK s dst y.1 y.2 K
def putH (s : St) (dst : Option Nat) (H : Nat → Option Ob) (K : St → Prop) (y : AV) : Prop := putK s dst y H K
def heapK (s : St) (K : St → Prop) (H : Nat → Option Ob) : Prop := K { n := s.n, env := s.env, heap := H }
def storeK (T : Tab) (s : St) (ty : TypeId) (ad : Operand) (K : St → Prop) (m : AV × (Nat → Option Ob)) : Prop := OkO (opStore T m.2 ty (s.ev ad) m.1) (heapK s K)
/-- A variable keeps what it is given; a row takes a copy. -/
def storeW (T : Tab) (s : St) (ty : TypeId) (ad v : Operand) (K : St → Prop) : Prop := match s.ev ad with
  | .a _ _ => OkO (opStore T s.heap ty (s.ev ad) (s.ev v)) (heapK s K)
  | _ => OkO (demote s.heap (s.ev v)) (storeK T s ty ad K)
def nilK (s : St) (dst : Option Nat) (neg : Bool) (K : St → Prop) (d : D) : Prop := match d with
  | .l _ xs => ∀ b : Bool, (b = true → xs = []) → putK s dst (.d (.b (if neg then !b else b))) s.heap K
  | _ => False
def valW (A : Env) (o : Oper) (s : St) (K : St → Prop) : Prop := OkO (valOp A.T s o) (valK s o.dst K)

def awpOp (A : Env) (o : Oper) (s : St) (K : St → Prop) : Prop := match o.op with
  | .pick c x y => match s.ev c with
    | .d (.b v) => splitB v (putK (litS s c true) o.dst (fixZ A.T o.type ((litS s c true).ev x)) s.heap K) (putK (litS s c false) o.dst (fixZ A.T o.type ((litS s c false).ev y)) s.heap K)
    | _ => False
  | .store ty ad v => match o.dst with
    | none => storeW A.T s ty ad v K
    | some _ => False
  | .call c => match c.callee with
    | .value f => match s.ev f with
      | .f fn caps => callW A s o.dst fn (zargs A.T s c.args.toList c.argTypes.toList ++ caps) K
      | .d (.f fn caps) => capsOK caps = true ∧ callW A s o.dst fn (zargs A.T s c.args.toList c.argTypes.toList ++ caps.map .d) K
      | _ => False
    | _ => valW A o s K
  | .convert src dst x => match A.T.kd src with
    | some (.slice _) => OkO (opB2S A.T s.heap src dst (s.ev x)) (putH s o.dst s.heap K)
    | _ => valW A o s K
  | .binOp op ty x y _ => match nilCmp A.T op ty y with
    | some neg => OkO (borC s.heap (s.ev x)) (nilK s o.dst neg K)
    | none => valW A o s K
  | .makeMap ty none => OkO (opMkMap A.T s.heap (o.dst.getD 0) ty) (valK s o.dst K)
  | .lookup ty m k ok => OkO (opMapGet A.T s.heap ty (s.ev m) (s.ev k) ok) (putH s o.dst s.heap K)
  | .mapUpdate ty m k x => match o.dst with
    | none => OkO (opMapSet A.T s.heap ty (s.ev m) (s.ev k) (s.ev x)) (heapK s K)
    | some _ => False
  | _ => valW A o s K

def dstAt (ops : List Oper) (j : Nat) : Option Nat := match ops[j]? with
  | some o => o.dst
  | none => none

/-- An operation that a condition may leave out. -/
def awpG (A : Env) (ops : List Oper) (o : Oper) (s : St) (K : St → Prop) : Prop := match o.guard with
  | none => awpOp A o s K
  | some (j, want) => match dstAt ops j with
    | none => putK s o.dst (.t []) s.heap K
    | some t => match s.env t with
      | .d (.b v) => splitB v (match want with | true => awpOp A o (litS s (.tmp t) true) K | false => putK (litS s (.tmp t) true) o.dst (.t []) s.heap K)
          (match want with | true => putK (litS s (.tmp t) false) o.dst (.t []) s.heap K | false => awpOp A o (litS s (.tmp t) false) K)
      | .t [] => putK s o.dst (.t []) s.heap K
      | _ => False

def awpOps (A : Env) (ops : List Oper) (K : St → Prop) : List Oper → St → Prop
  | [], s => K s
  | o :: os, s => awpG A ops o s (awpOps A ops K os)

def awpAny (A : Env) (ops : Array Oper) (K : St → Prop) : Nat → Array Bool → St → Prop
  | 0, listed, s => Region.ready .any ops listed = [] ∧ K s
  | n + 1, listed, s => (Region.ready .any ops listed = [] → K s) ∧ ∀ i ∈ Region.ready .any ops listed, match ops.toList[i]? with
    | some o => awpG A ops.toList o s (awpAny A ops K n (listed.setIfInBounds i true))
    | none => False

def fixA (ren : List (Nat × Nat)) : AV → Bool
  | .d _ => true
  | .z _ => true
  | .r k => (match ren.lookup k with | some j => j == k | none => false)
  | .a k _ => (match ren.lookup k with | some j => j == k | none => false)
  | .x => true
  | _ => false
def fixAA (ren : List (Nat × Nat)) : AV → Bool
  | .g cs => cs.all (fixA ren)
  | av => fixA ren av

theorem fixA_ok {ren : List (Nat × Nat)} {av : AV} (h : fixA ren av = true) : mapA ren av = av := by
  cases av <;> simp only [fixA, mapA] at h ⊢ <;> try (cases h; done)
  all_goals
    split at h
    · rename_i j hj; simp at h; subst h; rw [hj]
    · cases h
theorem fixAA_ok {ren : List (Nat × Nat)} {av : AV} (h : fixAA ren av = true) : mapA ren av = av := by
  cases av <;> simp only [fixAA] at h <;> try exact fixA_ok h
  rename_i cs
  simp only [mapA]
  congr 1
  induction cs with
  | nil => rfl
  | cons x xs ih =>
    simp only [List.all_cons, Bool.and_eq_true] at h
    simp only [mapL]
    rw [fixA_ok h.1, ih h.2]

/-- Whatever is known as the one may be known as the other. -/
def Sem (aa : AV) (s s' : St) : Prop := ∀ (B : Ctx) (G : Nat → GI) (a : Act) (w : World), B.aa = aa → RelG B G s a w → ∃ G', RelG B G' s' a w
theorem Sem.refl (aa : AV) (s : St) : Sem aa s s := fun B G a w _ h => ⟨G, h⟩
theorem Sem.trans {aa : AV} {s s' s'' : St} (h : Sem aa s s') (h' : Sem aa s' s'') : Sem aa s s'' := fun B G a w hB hr => by
  obtain ⟨G', hr'⟩ := h B G a w hB hr
  exact h' B G' a w hB hr'
theorem sem_wk {aa : AV} {s : St} (live : List Nat) {ren : List (Nat × Nat)} (h1 : renOK ren = true) (h2 : fixAA ren aa = true) : Sem aa s (wkS live ren s) := fun B G a w hB hr => by
  rw [wkS_eq]
  exact ⟨_, hr.wk live h1 (by rw [hB]; exact fixAA_ok h2)⟩
/-- What may be said of a state that is known less well. -/
def Via (A : Env) (J : St → Prop) (s : St) : Prop := ∃ s', Sem A.aa s s' ∧ J s'

def thenS (K : St → Prop) (Q : Exit → St → Prop) : Exit → St → Prop
  | .normal, s => K s
  | e, s => Q e s
def blkS (id : Nat) (Q : Exit → St → Prop) : Exit → St → Prop
  | .exit id', s => if id' = id then Q .normal s else Q (.exit id') s
  | e, s => Q e s

def awp (A : Env) : Code → (Exit → St → Prop) → St → Prop
  | .skip, Q, s => Q .normal s
  | .region _ ops false, Q, s => awpOps A ops.toList (Q .normal) ops.toList s
  | .region _ ops true, Q, s => awpAny A ops (Q .normal) ops.size (Array.replicate ops.size false) s
  | .seq x y, Q, s => awp A x (thenS (awp A y Q) Q) s
  | .cond c x y, Q, s => match s.ev c with
    | .d (.b v) => splitB v (awp A x Q (litS s c true)) (awp A y Q (litS s c false))
    | _ => False
  | .block id b, Q, s => awp A b (blkS id Q) s
  | .loop b, Q, s => ∃ I : Nat → St → Prop, (∃ n, Via A (I n) s) ∧ ∀ n s, I n s → awp A b (thenS (fun s' => ∃ m, m < n ∧ Via A (I m) s') Q) s
  | .exit id, Q, s => Q (.exit id) s
  | .label _, Q, s => Q .normal s
  | .goto l, Q, s => Q (.goto l) s
  | .ret, Q, s => Q .ret s
  | _, _, _ => False

theorem putK_mono {s : St} {dst : Option Nat} {av : AV} {H : Nat → Option Ob} {K K' : St → Prop} (hk : ∀ s, K s → K' s) (h : putK s dst av H K) : putK s dst av H K' := by
  cases dst with
  | none => exact hk _ h
  | some d => exact ⟨h.1, hk _ h.2⟩
theorem OkO_mono {α : Type} {o : Option α} {K K' : α → Prop} (hk : ∀ a, K a → K' a) (h : OkO o K) : OkO o K' := by
  cases o with
  | none => exact h
  | some a => exact hk a h
theorem splitB_mono {v : Bool} {X X' Y Y' : Prop} (hx : X → X') (hy : Y → Y') (h : splitB v X Y) : splitB v X' Y' := by
  cases v
  · exact hy h
  · exact hx h
theorem callW_mono {A : Env} {s : St} {dst : Option Nat} {f : FuncId} {args : List AV} {K K' : St → Prop} (hk : ∀ s, K s → K' s) (h : callW A s dst f args K) : callW A s dst f args K' := by
  unfold callW at h ⊢
  split at h
  · exact h
  · exact OkO_mono (fun ds h => OkO_mono (fun r h => ⟨h.1, putK_mono hk h.2⟩) h) h
  · exact OkO_mono (fun H1 h => ⟨h.1, OkO_mono (fun ds h => OkO_mono (fun r h => putK_mono hk h) h) h.2⟩) h
  · split at h
    · exact h
    · split at h
      · exact ⟨h.1, OkO_mono (fun ds h => OkO_mono (fun r h => ⟨h.1, h.2.1, putK_mono hk h.2.2⟩) h) h.2⟩
      · exact h
    · exact OkO_mono (fun x h => OkO_mono (fun ds h => OkO_mono (fun r h => ⟨h.1, h.2.1, OkO_mono (fun os h => ⟨h.1, putK_mono hk h.2⟩) h.2.2⟩) h) h) h
  · exact OkO_mono (fun y h => putK_mono hk h) h
  · exact OkO_mono (fun y h => putK_mono hk h) h
  · exact OkO_mono (fun y h => putK_mono hk h) h
theorem awpOp_mono {A : Env} {o : Oper} {s : St} {K K' : St → Prop} (hk : ∀ s, K s → K' s) (h : awpOp A o s K) : awpOp A o s K' := by
  have val : valW A o s K → valW A o s K' := OkO_mono fun y h => putK_mono hk h
  unfold awpOp at h ⊢
  split at h
  · split at h
    · exact splitB_mono (putK_mono hk) (putK_mono hk) h
    · exact h
  · split at h
    · unfold storeW at h ⊢
      split at h
      · exact OkO_mono (fun H h => hk _ h) h
      · exact OkO_mono (fun m h => OkO_mono (fun H h => hk _ h) h) h
    · exact h
  · split at h
    · split at h
      · exact callW_mono hk h
      · exact ⟨h.1, callW_mono hk h.2⟩
      · exact h
    · exact val h
  · split at h
    · exact OkO_mono (fun y h => putK_mono hk h) h
    · exact val h
  · split at h
    · refine OkO_mono (fun d h => ?_) h
      unfold nilK at h ⊢
      split at h
      · exact fun b hb => putK_mono hk (h b hb)
      · exact h
    · exact val h
  · exact OkO_mono (fun y h => putK_mono hk h) h
  · exact OkO_mono (fun y h => putK_mono hk h) h
  · split at h
    · exact OkO_mono (fun H h => hk _ h) h
    · exact h
  · exact val h
theorem awpG_mono {A : Env} {ops : List Oper} {o : Oper} {s : St} {K K' : St → Prop} (hk : ∀ s, K s → K' s) (h : awpG A ops o s K) : awpG A ops o s K' := by
  unfold awpG at h ⊢
  split at h
  · exact awpOp_mono hk h
  · split at h
    · exact putK_mono hk h
    · split at h
      · refine splitB_mono (fun h => ?_) (fun h => ?_) h
        · split at h
          · exact awpOp_mono hk h
          · exact putK_mono hk h
        · split at h
          · exact putK_mono hk h
          · exact awpOp_mono hk h
      · exact putK_mono hk h
      · exact h

section rel
variable {P : Program} {A : Env} {B : Ctx}

theorem OkO_inv {α : Type} {o : Option α} {K : α → Prop} (h : OkO o K) : ∃ a, o = some a ∧ K a := by
  cases o with
  | none => exact h.elim
  | some a => exact ⟨a, rfl, h⟩

/-- What a property of states says of an act and a world. -/
def Say (B : Ctx) (K : St → Prop) (K' : Act → World → Prop) : Prop := ∀ G s a w, RelG B G s a w → K s → K' a w

theorem putK_ok {G : Nat → GI} {s : St} {a : Act} {w : World} {H : Nat → Option Ob} (h : RelG B G { s with heap := H } a w) {v : Value} {av : AV} (hv : AVR w G H (Ban B.F G H) v av) {dst : Option Nat} {K : St → Prop} {K' : Act → World → Prop} (hK : Say B K K')
    (hp : putK s dst av H K) : K' (a.put dst v) w := by
  cases dst with
  | none => exact hK _ _ _ _ h hp
  | some d =>
    obtain ⟨hd, hp⟩ := hp
    exact hK _ _ _ _ (h.put d hd hv) hp

theorem litS_ok {s : St} {x : Operand} {v : Bool} (h : s.ev x = .d (.b v)) : litS s x v = s := by
  cases x with
  | tmp t =>
    have h : s.env t = .d (.b v) := h
    have : upd s.env t (.d (.b v)) = s.env := by
      funext i
      by_cases e : i = t
      · subst e; simp [upd, h]
      · simp [upd, e]
    simp [litS, this]
  | _ => rfl

theorem splitB_inv {v : Bool} {X Y : Prop} (h : splitB v X Y) : (v = true → X) ∧ (v = false → Y) := by
  cases v
  · exact ⟨fun e => (by cases e), fun _ => h⟩
  · exact ⟨fun _ => h, fun e => (by cases e)⟩

theorem zargs_ok {T : Tab} {G : Nat → GI} {s : St} {a : Act} {w : World} (h : RelG B G s a w) : ∀ (xs : List Operand) (ts : List TypeId), AVRL w G s.heap (Ban B.F G s.heap) (xs.map a.eval) (zargs T s xs ts)
  | [], _ => .nil
  | x :: xs, [] => .cons _ _ _ _ (h.ev x) (zargs_ok h xs [])
  | x :: xs, t :: ts => .cons _ _ _ _ (fixZ_ok t (h.ev x)) (zargs_ok h xs ts)

theorem freeAll_ok {H : Nat → Option Ob} : ∀ {L : List (Nat × Ob)}, freeAll H L = true → ∀ x ∈ L, H x.1 = none
  | [], _, x, hx => by cases hx
  | y :: L, h, x, hx => by
    simp only [freeAll, Bool.and_eq_true] at h
    rcases List.mem_cons.1 hx with rfl | hx
    · cases e : H x.1 with
      | none => rfl
      | some o => rw [e] at h; simp at h
    · exact freeAll_ok h.2 x hx

theorem does_wp {o : Oper} {a : Act} {w : World} {f : FuncId} {args : Array Value} {K : Act → World → Prop} {Q : Exit → Act → World → Prop} (he : execOp a.eval o = callFunc f args) (h : Does P f args w fun v w' => K (a.put o.dst v) w') : o.wp P a w K Q := by
  unfold Oper.wp
  rw [he]
  rcases h with ⟨h1, h2⟩ | ⟨v, w', h1, h2⟩
  · rw [h1]
    exact h2.mono fun e w' he => by
      cases e with
      | returned v => exact he
      | panicked c => exact he.elim
      | outgrown => exact he.elim
  · rw [h1]; exact h2

theorem callW_ok (hS : SumOK P A.S) {G : Nat → GI} {s : St} {a : Act} {w : World} (h : RelG B G s a w) {dst : Option Nat} {f : FuncId} {vs : List Value} {args : List AV} (hargs : AVRL w G s.heap (Ban B.F G s.heap) vs args) {K : St → Prop} {K' : Act → World → Prop} (hK : Say B K K')
    (hc : callW A s dst f args K) : Does P f vs.toArray w fun v w' => K' (a.put dst v) w' := by
  unfold callW at hc
  split at hc
  · exact hc.elim
  · rename_i F hF
    obtain ⟨ds, hb, hc⟩ := OkO_inv hc
    obtain ⟨r, hr, hfree, hc⟩ := OkO_inv hc
    have hSf := hS f _ hF ds r hr
    have := call_own h (io := none) (iov := none) (by simp) (fun _ => rfl) hargs (ds0 := []) (ks := []) rfl hb List.nodup_nil (by simp) (out := { ret := r }) (by simpa [ioIn] using hSf) rfl rfl (key := keyOf dst)
      (freeAll_ok hfree) (os := []) rfl
    refine Does.mono (by simpa using this) fun v w' hv => ?_
    obtain ⟨G', h1, h2⟩ := hv
    rw [← updL_eq] at h1 h2
    exact putK_ok h1 h2 hK hc
  · rename_i F hF
    obtain ⟨H1, hf, hks, hc⟩ := OkO_inv hc
    obtain ⟨ds, hb, hc⟩ := OkO_inv hc
    obtain ⟨r, hr, hc⟩ := OkO_inv hc
    have := call_shared h hargs hf hks hb (out := { ret := r, deep := false }) (hS f _ hF ds r hr) rfl
    exact this.mono fun v w' hv => putK_ok hv.1 hv.2 hK hc
  · rename_i F hF
    split at hc
    · exact hc.elim
    · rename_i k ve i o rest
      split at hc
      case h_2 => exact hc.elim
      rename_i sz xs ve' hk
      obtain ⟨⟨rfl, hi, ho⟩, hc⟩ := hc
      obtain ⟨ds, hb, hc⟩ := OkO_inv hc
      obtain ⟨r, hr, hap, hfree, hc⟩ := OkO_inv hc
      cases hargs with
      | cons v _ vs _ hv hvs =>
        have := call_nest h hk hi ho hv hvs hb (by simpa [apart] using hap) (hS f _ hF _ ds r hr) (key := keyOf dst) (freeAll_ok hfree)
        refine Does.mono this fun v w' hv => ?_
        obtain ⟨G', h1, h2⟩ := hv
        rw [← updL_eq] at h1 h2
        exact putK_ok h1 h2 hK hc
    · rename_i io rest _
      obtain ⟨x, hx, hc⟩ := OkO_inv hc
      obtain ⟨ds, hb, hc⟩ := OkO_inv hc
      obtain ⟨r, hr, hn, hap, hc⟩ := OkO_inv hc
      obtain ⟨os, hos, hfree, hc⟩ := OkO_inv hc
      cases hargs with
      | cons v _ vs _ hv hvs =>
        have := call_own h (io := some io) (iov := some v) (fun av e => ⟨v, rfl, by cases e; exact hv⟩) (by simp) hvs (ds0 := x.1) (ks := x.2) hx hb (nodupB_ok hn) (fun k hk => by
            have := List.all_eq_true.1 hap k hk
            simpa using this) (out := { ret := r.1, io := some r.2 }) (hS f _ hF _ ds r hr) rfl rfl (key := keyOf dst) (freeAll_ok hfree) (os := os) hos
        refine Does.mono (by simpa using this) fun v w' hv => ?_
        obtain ⟨G', h1, h2⟩ := hv
        rw [← updL_eq] at h1 h2
        exact putK_ok h1 h2 hK hc
  · rename_i F hF
    obtain ⟨y, hy, hc⟩ := OkO_inv hc
    unfold eatC at hy
    split at hy
    · cases hy
    rename_i io rest
    obtain ⟨x, hx, hy⟩ := Option.bind_eq_some_iff.1 hy
    obtain ⟨ds, hb, hy⟩ := Option.bind_eq_some_iff.1 hy
    obtain ⟨r, hr, hy⟩ := Option.bind_eq_some_iff.1 hy
    unfold eatR at hy
    split at hy
    case isFalse => cases hy
    rename_i hn
    split at hy
    case isFalse => cases hy
    rename_i hap
    split at hy
    case isFalse => cases hy
    rename_i hfree
    cases hy
    cases hargs with
    | cons v _ vs _ hv hvs =>
      have := call_eat h hv hvs (ds0 := x.1) (ks := x.2) hx hb (nodupB_ok hn) (fun k hk => by
          have := List.all_eq_true.1 hap k hk
          simpa using this) (hS f _ hF _ ds r hr) (key := keyOf dst) (freeAll_ok hfree)
      refine Does.mono this fun v w' hv => ?_
      obtain ⟨G', h1, h2⟩ := hv
      rw [← updL_eq] at h1 h2
      exact putK_ok h1 h2 hK hc
  · rename_i F hF
    obtain ⟨y, hy, hc⟩ := OkO_inv hc
    unfold bxC at hy
    split at hy
    case h_2 => cases hy
    rename_i k rest
    split at hy
    case h_2 => cases hy
    rename_i cs hk
    obtain ⟨x, hx, hy⟩ := Option.bind_eq_some_iff.1 hy
    obtain ⟨ds, hb, hy⟩ := Option.bind_eq_some_iff.1 hy
    obtain ⟨r, hr, hy⟩ := Option.bind_eq_some_iff.1 hy
    obtain ⟨r1, r2⟩ := r
    unfold bxR at hy
    split at hy
    case h_2 => cases hy
    rename_i y0 e
    have e : r2 = .p y0 := e
    subst e
    split at hy
    case isFalse => cases hy
    rename_i hn
    split at hy
    case isFalse => cases hy
    rename_i hap
    split at hy
    case isFalse => cases hy
    rename_i hfree
    split at hy
    case isFalse => cases hy
    rename_i hap2
    cases hy
    cases hargs with
    | cons v _ vs _ hv hvs =>
      have := call_box h hk hv hvs (ds0 := x.1) (ks := x.2) hx hb (nodupB_ok hn) (fun k hk => by
          have := List.all_eq_true.1 hap k hk
          simpa using this) (hS f _ hF _ ds _ hr) (key := keyOf dst) (keyb := keyOf dst + 50) (freeAll_ok hfree) (fun x hx z hz e => by
          have := List.all_eq_true.1 hap2 x.1 (List.mem_map.2 ⟨x, hx, rfl⟩)
          simp only [Bool.not_eq_true', List.contains_eq_mem, decide_eq_false_iff_not] at this
          exact this (List.mem_map.2 ⟨z, hz, e.symm⟩))
      refine Does.mono this fun v w' hv => ?_
      obtain ⟨G', h1, h2⟩ := hv
      rw [← updL_eq] at h1 h2
      exact putK_ok h1 h2 hK hc
  · rename_i F hF
    obtain ⟨y, hy, hc⟩ := OkO_inv hc
    unfold bdC at hy
    split at hy
    case h_2 => cases hy
    rename_i k rest
    split at hy
    case h_2 => cases hy
    rename_i t hk
    obtain ⟨ds, hb, hy⟩ := Option.bind_eq_some_iff.1 hy
    obtain ⟨r, hr, hy⟩ := Option.bind_eq_some_iff.1 hy
    cases hy
    cases hargs with
    | cons v _ vs _ hv hvs =>
      refine Does.mono (call_bld h hk hv hvs hb (hS f _ hF _ ds _ hr)) fun v w' hv => ?_
      obtain ⟨G', h1, h2⟩ := hv
      rw [← updL_eq] at h1 h2
      exact putK_ok h1 h2 hK hc

theorem awpOp_ok (hT : A.T.ok P = true) (hS : SumOK P A.S) {G : Nat → GI} {s : St} {a : Act} {w : World} (h : RelG B G s a w) {o : Oper} {K : St → Prop} {K' : Act → World → Prop} {Q : Exit → Act → World → Prop} (hK : Say B K K') (hw : awpOp A o s K) : o.wp P a w K' Q := by
  have val : valW A o s K → o.wp P a w K' Q := by
    intro hv
    obtain ⟨y, hm, hp⟩ := OkO_inv hv
    obtain ⟨v, w', G', hr, h1, h2⟩ := valOp_ok hT h hm
    unfold Oper.wp
    rw [hr]
    exact putK_ok h1 h2 hK hp
  unfold awpOp at hw
  split at hw
  · rename_i c x y hop
    split at hw
    case h_2 => exact hw.elim
    rename_i v hev
    obtain ⟨h1, h2⟩ := splitB_inv hw
    have hb : a.eval c = .bool v := by have := h.ev c; rw [hev] at this; exact this.inv_bool
    unfold Oper.wp
    obtain ⟨dst, op, type, pos, after, guard⟩ := o
    simp only at hop
    subst hop
    have hrun : ∀ u, (if v then a.eval x else a.eval y) = u → (execOp a.eval ⟨dst, .pick c x y, type, pos, after, guard⟩).run P w = .ok (.value u) w := by
      intro u e
      simp only [execOp, hb, asBool, pure_bind, e]
      rfl
    cases v with
    | true =>
      have h1 := h1 rfl
      rw [litS_ok hev] at h1
      rw [hrun _ rfl]
      exact putK_ok h (fixZ_ok type (h.ev x)) hK h1
    | false =>
      have h2 := h2 rfl
      rw [litS_ok hev] at h2
      rw [hrun _ rfl]
      exact putK_ok h (fixZ_ok type (h.ev y)) hK h2
  · rename_i ty ad v hop
    split at hw
    case h_2 => exact hw.elim
    rename_i hd
    obtain ⟨H, w', G', hr, h1, hw⟩ : ∃ H w' G', (Instr.storeAt ty (a.eval ad) (a.eval v)).run P w = .ok () w' ∧ RelG B G' { s with heap := H } a w' ∧ K { s with heap := H } := by
      unfold storeW at hw
      split at hw
      · obtain ⟨H, m2, hw⟩ := OkO_inv hw
        obtain ⟨w', G', hr, h1⟩ := opStore_ok hT h (h.ev ad) (h.ev v) m2
        exact ⟨H, w', G', hr, h1, hw⟩
      · obtain ⟨m, m1, hw⟩ := OkO_inv hw
        obtain ⟨H, m2, hw⟩ := OkO_inv hw
        obtain ⟨e1, v1⟩ := demote_ok h (h.ev v) m1
        obtain ⟨w', G', hr, h1⟩ := opStore_ok (s := { s with heap := m.2 }) hT e1.rel (e1.avr (h.ev ad)) v1 m2
        exact ⟨H, w', G', hr, h1, hw⟩
    unfold Oper.wp
    obtain ⟨dst, op, type, pos, after, guard⟩ := o
    simp only at hop hd
    subst hop hd
    have : (execOp a.eval ⟨none, .store ty ad v, type, pos, after, guard⟩).run P w = .ok .skip w' := by
      simp only [execOp, Sem.run_bind, hr, Result.andThen_ok]
      rfl
    rw [this]
    exact hK _ _ _ _ h1 hw
  · rename_i c hop
    split at hw
    case h_2 => exact val hw
    rename_i f hf
    have go : ∀ {fn : FuncId} {cs : Array Value} {caps : List AV}, a.eval f = .func (.func fn) #[] cs → AVRL w G s.heap (Ban B.F G s.heap) cs.toList caps → callW A s o.dst fn (zargs A.T s c.args.toList c.argTypes.toList ++ caps) K → o.wp P a w K' Q := by
      intro fn cs caps hfe hcs hw
      refine does_wp (f := fn) (args := (c.args.toList.map a.eval ++ cs.toList).toArray) ?_ (callW_ok hS h ((zargs_ok h _ _).append hcs) hK hw)
      obtain ⟨dst, op, type, pos, after, guard⟩ := o
      simp only at hop
      subst hop
      obtain ⟨callee, args, argTypes⟩ := c
      simp only at hf
      subst hf
      simp only [execOp, resolve, hfe, Deferred.ofValue, pure_bind, invoke]
      congr 1
      apply Array.ext'
      simp
    split at hw
    · rename_i fn caps hev
      have hfv := h.ev f
      rw [hev] at hfv
      generalize hfe : a.eval f = fv at hfv
      cases hfv with
      | f _ cs _ hcs => exact go hfe hcs hw
    · rename_i fn caps hev
      have hfv := h.ev f
      rw [hev] at hfv
      generalize hfe : a.eval f = fv at hfv
      cases hfv with
      | d _ _ S h1 ht hS' =>
        cases ht with
        | f _ cs _ _ hcs => exact go hfe (caps_avrl hcs hw.1 hS') hw.2
    · exact hw.elim
  · rename_i src dst' x hop
    split at hw
    case h_2 => exact val hw
    obtain ⟨y, hm, hp⟩ := OkO_inv hw
    obtain ⟨v, hr, h2⟩ := opB2S_ok hT h (h.ev x) hm
    unfold Oper.wp
    obtain ⟨dst, op, type, pos, after, guard⟩ := o
    simp only at hop
    subst hop
    have : (execOp a.eval ⟨dst, .convert src dst' x, type, pos, after, guard⟩).run P w = .ok (.value v) w := by
      simp only [execOp, Sem.run_bind, hr, Result.andThen_ok]
      rfl
    rw [this]
    exact putK_ok h h2 hK hp
  · rename_i op ty x y yt hop
    split at hw
    case h_2 => exact val hw
    rename_i neg hc
    obtain ⟨d, hb, hw⟩ := OkO_inv hw
    unfold nilK at hw
    split at hw
    case h_2 => exact hw.elim
    rename_i sz xs
    obtain ⟨b, hb1, hr⟩ := nilCmp_ok hT h hc hb
    unfold Oper.wp
    obtain ⟨dst, op', type, pos, after, guard⟩ := o
    simp only at hop
    subst hop
    have : (execOp a.eval ⟨dst, .binOp op ty x y yt, type, pos, after, guard⟩).run P w = .ok (.value (.bool (if neg then !b else b))) w := by
      simp only [execOp] at hr ⊢
      rw [Sem.run_bind, hr, Result.andThen_ok]
      rfl
    rw [this]
    exact putK_ok h (.sc rfl (.b _)) hK (hw b hb1)
  · rename_i ty hop
    obtain ⟨y, hm, hp⟩ := OkO_inv hw
    obtain ⟨v, w', G', hr, h1, h2⟩ := opMkMap_ok (P := P) h hm
    unfold Oper.wp
    obtain ⟨dst, op, type, pos, after, guard⟩ := o
    simp only at hop
    subst hop
    have : (execOp a.eval ⟨dst, .makeMap ty none, type, pos, after, guard⟩).run P w = .ok (.value v) w' := by
      simp only [execOp, Option.map_none, Sem.run_bind, hr, Result.andThen_ok]
      rfl
    rw [this]
    exact putK_ok h1 h2 hK hp
  · rename_i ty m k ok hop
    obtain ⟨y, hm, hp⟩ := OkO_inv hw
    obtain ⟨v, hr, h2⟩ := opMapGet_ok hT h (h.ev m) (h.ev k) hm
    unfold Oper.wp
    obtain ⟨dst, op, type, pos, after, guard⟩ := o
    simp only at hop
    subst hop
    have : (execOp a.eval ⟨dst, .lookup ty m k ok, type, pos, after, guard⟩).run P w = .ok (.value v) w := by
      simp only [execOp, Sem.run_bind, hr, Result.andThen_ok]
      rfl
    rw [this]
    exact putK_ok h h2 hK hp
  · rename_i ty m k x hop
    split at hw
    case h_2 => exact hw.elim
    rename_i hd
    obtain ⟨H, m2, hw⟩ := OkO_inv hw
    obtain ⟨w', G', hr, h1⟩ := opMapSet_ok hT h (h.ev m) (h.ev k) (h.ev x) m2
    unfold Oper.wp
    obtain ⟨dst, op, type, pos, after, guard⟩ := o
    simp only at hop hd
    subst hop hd
    have : (execOp a.eval ⟨none, .mapUpdate ty m k x, type, pos, after, guard⟩).run P w = .ok .skip w' := by
      simp only [execOp, Sem.run_bind, hr, Result.andThen_ok]
      rfl
    rw [this]
    exact hK _ _ _ _ h1 hw
  · exact val hw

theorem awpG_ok (hT : A.T.ok P = true) (hS : SumOK P A.S) {G : Nat → GI} {s : St} {a : Act} {w : World} (h : RelG B G s a w) {ops : Array Oper} {i : Nat} {o : Oper} (ho : ops[i]? = some o) {K : St → Prop} {K' : Act → World → Prop} {Q : Exit → Act → World → Prop} (hK : Say B K K') (hw : awpG A ops.toList o s K) :
    wpOp P ops Q i K' a w := by
  have run : Region.wanted o (yielded ops a.tmps) = true → awpOp A o s K → wpOp P ops Q i K' a w := by
    intro h1 h2
    unfold wpOp
    rw [ho]
    simp only [h1, if_true]
    exact .inl (awpOp_ok hT hS h hK h2)
  have leave : Region.wanted o (yielded ops a.tmps) = false → putK s o.dst (.t []) s.heap K → wpOp P ops Q i K' a w := by
    intro h1 h2
    unfold wpOp
    rw [ho]
    simp only [h1]
    exact putK_ok h (.t #[] [] .nil) hK h2
  unfold awpG at hw
  split at hw
  · rename_i hg
    exact run (by simp [Region.wanted, hg]) hw
  · rename_i j want hg
    have hy : ∀ t, dstAt ops.toList j = some t → yielded ops a.tmps j = match a.tmps[t]? with | some (.bool b) => some b | _ => none := by
      intro t ht
      unfold dstAt at ht
      rw [Array.getElem?_toList] at ht
      unfold yielded
      cases e : ops[j]? with
      | none => rw [e] at ht; cases ht
      | some o' =>
        rw [e] at ht
        simp only at ht
        simp only [Option.bind_some, ht]
        cases a.tmps[t]? with
        | none => rfl
        | some u => cases u <;> rfl
    split at hw
    · rename_i hd
      refine leave ?_ hw
      unfold dstAt at hd
      rw [Array.getElem?_toList] at hd
      have : yielded ops a.tmps j = none := by
        unfold yielded
        cases e : ops[j]? with
        | none => rfl
        | some o' => rw [e] at hd; simp only at hd; simp [hd]
      simp [Region.wanted, hg, this]
    · rename_i t ht
      have hy := hy t ht
      split at hw
      · rename_i v hv
        have hb := h.env t
        rw [hv] at hb
        have hb : a.tmps.getD t undef = .bool v := hb.inv_bool
        have ht : a.tmps[t]? = some (.bool v) := by
          cases e : a.tmps[t]? with
          | none => rw [Array.getD_eq_getD_getElem?, e] at hb; cases hb
          | some u => rw [Array.getD_eq_getD_getElem?, e] at hb; simp at hb; rw [hb]
        rw [ht] at hy
        have hwant : Region.wanted o (yielded ops a.tmps) = (v == want) := by
          simp only [Region.wanted, hg, hy]
          cases v <;> cases want <;> rfl
        obtain ⟨h1, h2⟩ := splitB_inv hw
        have hl : litS s (.tmp t) v = s := litS_ok (x := .tmp t) hv
        cases v with
        | true =>
          have h1 := h1 rfl
          rw [hl] at h1
          cases want with
          | true => exact run hwant h1
          | false => exact leave hwant h1
        | false =>
          have h2 := h2 rfl
          rw [hl] at h2
          cases want with
          | true => exact leave hwant h2
          | false => exact run hwant h2
      · rename_i hv
        have hb := h.env t
        rw [hv] at hb
        refine leave ?_ hw
        have hn : yielded ops a.tmps j = none := by
          rw [hy]
          cases e : a.tmps[t]? with
          | none => rfl
          | some u =>
            rw [Array.getD_eq_getD_getElem?, e] at hb
            simp only [Option.getD_some] at hb
            cases hb with
            | t vs _ h => rfl
        simp [Region.wanted, hg, hn]
      · exact hw.elim

theorem awpOps_ok (hT : A.T.ok P = true) (hS : SumOK P A.S) {ops : Array Oper} {K : St → Prop} {Q : Exit → Act → World → Prop} (hK : Say B K (Q .normal)) :
    ∀ (os pre : List Oper), ops.toList = pre ++ os → Say B (awpOps A ops.toList K os) (wpOps P ops Q (List.range' pre.length os.length))
  | [], pre, _ => fun G s a w h hw => hK G s a w h hw
  | o :: os, pre, e => fun G s a w h hw => by
    have ih := awpOps_ok hT hS (ops := ops) hK os (pre ++ [o]) (by rw [e]; simp)
    have ho : ops[pre.length]? = some o := by rw [← Array.getElem?_toList, e]; simp
    show wpOps P ops Q (List.range' pre.length (os.length + 1)) a w
    rw [List.range'_succ, wpOps_cons]
    have hl : (pre ++ [o]).length = pre.length + 1 := by simp
    rw [hl] at ih
    exact awpG_ok hT hS h ho ih hw

theorem awpAny_ok (hT : A.T.ok P = true) (hS : SumOK P A.S) {ops : Array Oper} {K : St → Prop} {Q : Exit → Act → World → Prop} (hK : Say B K (Q .normal)) :
    ∀ (n : Nat) (listed : Array Bool), Say B (awpAny A ops K n listed) (wpAny P .any ops Q n listed)
  | 0, listed => fun G s a w h hw => ⟨hw.1, hK G s a w h hw.2⟩
  | n + 1, listed => fun G s a w h hw => by
    refine ⟨fun e => hK G s a w h (hw.1 e), fun i hi => ?_⟩
    have := hw.2 i hi
    split at this
    case h_2 => exact this.elim
    rename_i o ho
    exact awpG_ok hT hS h (by rw [← Array.getElem?_toList]; exact ho) (awpAny_ok hT hS hK n _) this

theorem Via_ok (hA : B.aa = A.aa) {J : St → Prop} {J' : Act → World → Prop} (hJ : Say B J J') : Say B (Via A J) J' := by
  rintro G s a w h ⟨s', h1, h3⟩
  obtain ⟨G', h2⟩ := h1 _ G a w hA h
  exact hJ _ _ _ _ h2 h3

theorem drawn_rel {G : Nat → GI} {s : St} {a : Act} {w : World} (h : RelG B G s a w) (n : Nat) : RelG B G s a { w with drawn := n } := by
  refine h.grow ⟨rfl, rfl, rfl, Nat.le_refl _⟩ fun b hb => rfl

/-- The walk of the mind is the walk of the code. -/
theorem awp_ok (hT : A.T.ok P = true) (hS : SumOK P A.S) (hm : P.follows .mixedOrders = true) (hA : B.aa = A.aa) :
    ∀ (c : Code) {Q : Exit → St → Prop} {Q' : Exit → Act → World → Prop}, (∀ e, Say B (Q e) (Q' e)) → Say B (awp A c Q) (c.wp P Q') := by
  intro c
  induction c with
  | skip => exact fun hQ G s a w h hw => wp_skip (hQ _ _ _ _ _ h hw)
  | label l => exact fun hQ G s a w h hw => wp_label (hQ _ _ _ _ _ h hw)
  | exit id => exact fun hQ G s a w h hw => wp_exit (hQ _ _ _ _ _ h hw)
  | goto l => exact fun hQ G s a w h hw => wp_goto (hQ _ _ _ _ _ h hw)
  | ret => exact fun hQ G s a w h hw => wp_ret (hQ _ _ _ _ _ h hw)
  | rangeFunc f ps x y => exact fun hQ G s a w h hw => hw.elim
  | scope b => exact fun hQ G s a w h hw => hw.elim
  | refuse why => exact fun hQ G s a w h hw => hw.elim
  | region id ops dr =>
    intro Q Q' hQ G s a w h hw
    cases dr with
    | false =>
      have := awpOps_ok hT hS (ops := ops) (hQ .normal) ops.toList [] rfl G s a w h hw
      refine wp_region ?_
      rw [List.range_eq_range']
      simpa using this
    | true => exact wp_region_any hm (awpAny_ok hT hS (hQ .normal) _ _ G s a _ (drawn_rel h _) hw)
  | seq x y ihx ihy =>
    intro Q Q' hQ G s a w h hw
    refine wp_seq (ihx (Q := thenS (awp A y Q) Q) (fun e => ?_) G s a w h hw)
    cases e with
    | normal => exact ihy hQ
    | exit id => exact hQ (.exit id)
    | goto l => exact hQ (.goto l)
    | ret => exact hQ .ret
    | panic ch => exact hQ (.panic ch)
    | outgrown => exact hQ .outgrown
  | cond c x y ihx ihy =>
    intro Q Q' hQ G s a w h hw
    simp only [awp] at hw
    split at hw
    case h_2 => exact hw.elim
    rename_i v hev
    have hb : a.eval c = .bool v := by have := h.ev c; rw [hev] at this; exact this.inv_bool
    obtain ⟨h1, h2⟩ := splitB_inv hw
    cases v with
    | true =>
      have h1 := h1 rfl
      rw [litS_ok hev] at h1
      exact wp_cond_true hb (ihx hQ G s a w h h1)
    | false =>
      have h2 := h2 rfl
      rw [litS_ok hev] at h2
      exact wp_cond_false hb (ihy hQ G s a w h h2)
  | block id b ih =>
    intro Q Q' hQ G s a w h hw
    refine wp_block (ih (Q := blkS id Q) (fun e => ?_) G s a w h hw)
    cases e with
    | exit id' =>
      intro G s a w h hw
      simp only [blkS] at hw
      simp only [Exit.inBlock]
      split
      · rename_i e; rw [if_pos e] at hw; exact hQ .normal _ _ _ _ h hw
      · rename_i e; rw [if_neg e] at hw; exact hQ (.exit id') _ _ _ _ h hw
    | normal => exact hQ .normal
    | goto l => exact hQ (.goto l)
    | ret => exact hQ .ret
    | panic ch => exact hQ (.panic ch)
    | outgrown => exact hQ .outgrown
  | loop b ih =>
    intro Q Q' hQ G s a w h hw
    obtain ⟨I, ⟨n, hs⟩, hI⟩ := hw
    refine wp_loop_ghost (fun n a w => ∃ G s, RelG B G s a w ∧ I n s) n (Via_ok hA (J := I n) (J' := fun a w => ∃ G s, RelG B G s a w ∧ I n s) (fun G s a w h hi => ⟨G, s, h, hi⟩) G s a w h hs) ?_
    rintro n a w ⟨G, s, h, hi⟩
    refine ih (Q := thenS (fun s' => ∃ m, m < n ∧ Via A (I m) s') Q) (fun e => ?_) G s a w h (hI n s hi)
    cases e with
    | normal =>
      rintro G s a w h ⟨m, hm, hv⟩
      exact ⟨m, hm, Via_ok hA (J := I m) (J' := fun a w => ∃ G s, RelG B G s a w ∧ I m s) (fun G s a w h hi => ⟨G, s, h, hi⟩) G s a w h hv⟩
    | exit id => exact hQ (.exit id)
    | goto l => exact hQ (.goto l)
    | ret => exact hQ .ret
    | panic ch => exact hQ (.panic ch)
    | outgrown => exact hQ .outgrown


end rel
end Go.Fs
namespace Go.Fs

theorem OkO_some {α : Type} (a : α) (K : α → Prop) : OkO (some a) K = K a := rfl
theorem upd_at {α : Type} (f : Nat → α) (k : Nat) (x : α) (i : Nat) : upd f k x i = if i = k then x else f i := rfl

def insL : Nat → List In → Nat → AV
  | _, [] => fun _ => .x
  | i, x :: xs => upd (insL (i + 1) xs) i (inAV x)
theorem insL_at : ∀ (ins : List In) (i t : Nat), insL i ins t = if i ≤ t then (ins.map inAV).getD (t - i) .x else .x
  | [], i, t => by simp [insL]
  | x :: xs, i, t => by
    rw [insL, upd]
    by_cases h : t = i
    · subst h; simp
    · rw [if_neg h, insL_at xs (i + 1) t]
      by_cases h2 : i ≤ t
      · have : t - i = t - (i + 1) + 1 := by omega
        rw [if_pos (by omega), if_pos h2, this]
        simp
      · rw [if_neg (by omega), if_neg h2]
theorem inSt_eq (n : Nat) (ins : List In) : inSt n ins = ⟨n, insL 0 ins, inHeap ins⟩ := by
  unfold inSt
  congr 1
  funext t
  rw [insL_at]
  simp
theorem constAV_i (k : IntKind) (n : Int) : constAV (.int k n) = .d (.i k n) := rfl
theorem constAV_b (b : Bool) : constAV (.bool b) = .d (.b b) := rfl
theorem constAV_z : constAV (.slice none 0 0) = .z 0 := rfl
theorem constAV_n : constAV (.pointer none) = .d .n := rfl
theorem constAV_s (b : ByteArray) : constAV (.string b) = .d (.s b) := rfl

def stL (n : Nat) (L : List (Nat × AV)) (K : List (Nat × Option Ob)) : St := ⟨n, envL L, obL K⟩
def obM (ren : List (Nat × Nat)) : Option Ob → Option Ob
  | some o => some (mapOb ren o)
  | none => none
/-- Keys, in the order in which they are met. -/
def keysC : AV → List Nat
  | .r k => [k]
  | .a k _ => [k]
  | .e k _ _ => [k]
  | .m k _ _ _ => [k]
  | .mp k => [k]
  | .bp k => [k]
  | _ => []
def keysA : AV → List Nat
  | .g cs => cs.flatMap keysC
  | .f _ caps => caps.flatMap keysC
  | .t vs => vs.flatMap keysC
  | av => keysC av
def keysO : Option Ob → List Nat
  | some (.box cs) => cs.flatMap keysC
  | _ => []
def canonGo : List Nat → Nat → List (Nat × Nat) → List (Nat × Nat)
  | [], _, ren => ren
  | k :: ks, n, ren => if ren.any (fun x => x.1 == k) then canonGo ks n ren else if 900000 ≤ k then canonGo ks n (ren ++ [(k, k)]) else canonGo ks (n + 1) (ren ++ [(k, 500000 + n)])
def canon2 (H : Nat → Option Ob) (ks : List Nat) : List (Nat × Nat) := canonGo (ks ++ ks.flatMap fun k => keysO (H k)) 0 []
def canon (aa : AV) (live : List Nat) (s : St) : List (Nat × Nat) := canon2 s.heap (keysA aa ++ live.flatMap fun t => keysA (s.env t))


theorem stL_n (n : Nat) (L : List (Nat × AV)) (K : List (Nat × Option Ob)) : (stL n L K).n = n := rfl
theorem stL_env (n : Nat) (L : List (Nat × AV)) (K : List (Nat × Option Ob)) : (stL n L K).env = envL L := rfl
theorem stL_heap (n : Nat) (L : List (Nat × AV)) (K : List (Nat × Option Ob)) : (stL n L K).heap = obL K := rfl
theorem envL_cons (x : Nat × AV) (L : List (Nat × AV)) : envL (x :: L) = upd (envL L) x.1 x.2 := rfl
theorem envL_nil : envL [] = fun _ => .x := rfl
theorem obL_cons (x : Nat × Option Ob) (L : List (Nat × Option Ob)) : obL (x :: L) = upd (obL L) x.1 x.2 := rfl
theorem obL_nil : obL [] = fun _ => none := rfl

theorem keyIn_eq : keyIn = 900000 := rfl
theorem ovr_eq (L : List (Nat × Ob)) (H : Nat → Option Ob) : ovr L H = updL L H := (updL_eq L H).symm
end Go.Fs
namespace Go.Fs

mutual
def wt : D → Nat
  | .s t => t.size
  | .l _ xs => xs.length + wtLL xs
  | .g cs => wtL cs
  | _ => 0
def wtL : List D → Nat
  | [] => 0
  | d :: ds => wt d + wtL ds
def wtLL : List (List D) → Nat
  | [] => 0
  | x :: xs => wtL x + wtLL xs
end

def maxD : Nat := 140737488355328
mutual
/-- No list and no text of it is longer than memory could hold; numbers are of their kind. -/
def okD : D → Bool
  | .s t => decide (t.size ≤ maxD)
  | .i k n => decide (k.wrap n = n)
  | .l _ xs => decide (xs.length ≤ maxD) && okLL xs
  | .g cs => okL cs
  | _ => true
def okL : List D → Bool
  | [] => true
  | d :: ds => okD d && okL ds
def okLL : List (List D) → Bool
  | [] => true
  | x :: xs => okL x && okLL xs
end



theorem wrap64 {n : Int} (h1 : -9223372036854775808 ≤ n) (h2 : n < 9223372036854775808) : IntKind.i64.wrap n = n := by
  have e : (2 ^ IntKind.i64.bits : Int) = 18446744073709551616 := by decide
  have e2 : (2 ^ (IntKind.i64.bits - 1) : Int) = 9223372036854775808 := by decide
  have e3 : IntKind.i64.signed = true := rfl
  unfold IntKind.wrap
  rw [e, e2, e3]
  simp only [Bool.true_and, decide_eq_true_eq, ge_iff_le]
  split <;> omega
end Go.Fs
