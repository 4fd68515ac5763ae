/- A part of the proof: an evaluator of the program's code over plain data, proved sound; the equations of its functions; what they compute. No conditions beyond those in the theorems. -/
import Derived.Test.YtkgkoolfobmfnaaGreatDoorP9
import Derived.Test.YtkgkoolfobmfnaaGreatDoorP5
import Derived.Test.YtkgkoolfobmfnaaGreatDoorP11
import Derived.Test.YtkgkoolfobmfnaaGreatDoorP12
import Derived.Test.YtkgkoolfobmfnaaGreatDoorP13
import Derived.Test.YtkgkoolfobmfnaaGreatDoorP14
import Derived.Test.YtkgkoolfobmfnaaGreatDoorP15
import Derived.Test.YtkgkoolfobmfnaaGreatDoorP16
import Derived.Test.YtkgkoolfobmfnaaGreatDoorP17
import Derived.Test.YtkgkoolfobmfnaaGreatDoorP18
set_option linter.unusedVariables false
set_option linter.unusedSimpArgs false
set_option linter.constructorNameAsVariable false
set_option linter.unusedSectionVars false
set_option linter.defProp false
namespace Go.Fs.Pl
theorem wrapu8 {n : Int} (h1 : 0 ≤ n) (h2 : n < 256) : IntKind.u8.wrap n = n := by
  have e : (2 ^ IntKind.u8.bits : Int) = 256 := by decide
  have e3 : IntKind.u8.signed = false := rfl
  unfold IntKind.wrap
  rw [e, e3]
  simp only [Bool.false_and, Bool.false_eq_true, if_false]
  omega
abbrev Bs := List UInt8
def mk (l : Bs) : ByteArray := ⟨l.toArray⟩
def un (a : ByteArray) : Bs := a.data.toList
@[simp] theorem mk_un (a : ByteArray) : mk (un a) = a := by
  cases a with
  | mk d => show ByteArray.mk d.toList.toArray = _; rw [Array.toArray_toList]
@[simp] theorem un_mk (l : Bs) : un (mk l) = l := by simp [mk, un]
theorem mk_inj {l m : Bs} : mk l = mk m ↔ l = m := ⟨fun h => by rw [← un_mk l, ← un_mk m, h], fun h => by rw [h]⟩
theorem un_inj {a b : ByteArray} : un a = un b ↔ a = b := ⟨fun h => by rw [← mk_un a, ← mk_un b, h], fun h => by rw [h]⟩
theorem mk_size (l : Bs) : (mk l).size = l.length := by simp [mk, ByteArray.size]
theorem un_len (a : ByteArray) : (un a).length = a.size := rfl
theorem un_append (a b : ByteArray) : un (a ++ b) = un a ++ un b := by simp [un]
theorem mk_append (l m : Bs) : mk l ++ mk m = mk (l ++ m) := un_inj.1 (by rw [un_append]; simp)
theorem un_extract (a : ByteArray) (i j : Nat) : un (a.extract i j) = ((un a).take j).drop i := by
  unfold un
  rw [Lib.extract_data]
  simp [List.drop_take]
theorem mk_extract (l : Bs) (i j : Nat) : (mk l).extract i j = mk ((l.take j).drop i) := un_inj.1 (by rw [un_extract]; simp)
theorem mk_empty : ByteArray.empty = mk [] := rfl
theorem byteAt_mk (l : Bs) (n : Nat) : byteAt (mk l) (n : Int) = ((l.getD n 0).toNat : Int) := by simp [byteAt, mk]
theorem byteAt_at (pre post : Bs) (x : UInt8) : byteAt (mk (pre ++ x :: post)) (pre.length : Int) = (x.toNat : Int) := by
  rw [byteAt_mk]; simp
theorem cat_mk {l m : Bs} (h : l.length + m.length ≤ 9223372036854775807) : cat (mk l) (mk m) = some (mk (l ++ m)) := by
  unfold cat
  rw [mk_size, mk_size, if_pos h, mk_append]
theorem toNat_eq {x c : UInt8} : ((x.toNat : Int) = (c.toNat : Int)) ↔ x = c := ⟨fun h => UInt8.toNat_inj.1 (by omega), fun h => by rw [h]⟩
theorem w1 {n : Nat} (h : n < 4611686018427387904) : IntKind.i64.wrap ((n : Int) + 1) = ((n + 1 : Nat) : Int) := by
  rw [wrap64 (by omega) (by omega)]; omega
theorem getI_at {α : Type} (pre post : List α) (x : α) : getI (pre ++ x :: post) (pre.length : Int) = some x := by
  unfold getI
  rw [if_pos (by omega)]
  simp

def idx (c : UInt8) : Bs → Option Nat
  | [] => none
  | x :: xs => if x = c then some 0 else (idx c xs).map (· + 1)
theorem idx_none {c : UInt8} : ∀ {l : Bs}, idx c l = none ↔ c ∉ l
  | [] => by simp [idx]
  | x :: xs => by
    unfold idx
    by_cases h : x = c
    · subst h; simp
    · rw [if_neg h, Option.map_eq_none_iff, idx_none]
      simp [Ne.symm h]
theorem idx_at {c : UInt8} : ∀ {l : Bs} (r : Bs), c ∉ l → idx c (l ++ c :: r) = some l.length
  | [], r, _ => by simp [idx]
  | x :: xs, r, h => by
    simp only [List.mem_cons, not_or] at h
    simp only [List.cons_append, idx, if_neg (Ne.symm h.1), idx_at r h.2, Option.map_some, List.length_cons]
theorem idx_split {c : UInt8} : ∀ {l : Bs} {i : Nat}, idx c l = some i → ∃ a b, l = a ++ c :: b ∧ a.length = i ∧ c ∉ a
  | [], i, h => by cases h
  | x :: xs, i, h => by
    unfold idx at h
    split at h
    · next e => subst e; cases h; exact ⟨[], xs, rfl, rfl, by simp⟩
    · next e =>
      cases hi : idx c xs with
      | none => rw [hi] at h; cases h
      | some j =>
        rw [hi] at h; cases h
        obtain ⟨a, b, rfl, rfl, h3⟩ := idx_split hi
        exact ⟨x :: a, b, rfl, rfl, by simp [h3, Ne.symm e]⟩
theorem index_one (c : UInt8) : ∀ s : Bs, Lib.index s [c] = (match idx c s with | some i => (i : Int) | none => -1)
  | [] => rfl
  | x :: xs => by
    unfold Lib.index idx
    rw [index_one c xs]
    by_cases h : x = c
    · subst h; simp
    · have h2 : ([c].isPrefixOf (x :: xs)) = false := by show (c == x && _) = false; rw [beq_eq_false_iff_ne.2 (Ne.symm h)]; rfl
      rw [h2, if_neg h]
      cases hi : idx c xs with
      | none => rfl
      | some j =>
        simp only [Option.map_some]
        have : ((j : Int) == -1) = false := by rw [beq_eq_false_iff_ne]; omega
        simp [this]

def splitG (c : UInt8) (cur : Bs) : Bs → List Bs
  | [] => [cur]
  | x :: xs => if x = c then cur :: splitG c [] xs else splitG c (cur ++ [x]) xs
theorem splitG_pre {c : UInt8} : ∀ {w : Bs} (cur post : Bs), c ∉ w → splitG c cur (w ++ post) = splitG c (cur ++ w) post
  | [], cur, post, _ => by simp
  | x :: xs, cur, post, h => by
    simp only [List.mem_cons, not_or] at h
    simp only [List.cons_append, splitG, if_neg (Ne.symm h.1), splitG_pre (cur ++ [x]) post h.2, List.append_assoc, List.nil_append]
theorem splitG_one {c : UInt8} {w : Bs} (cur : Bs) (h : c ∉ w) : splitG c cur w = [cur ++ w] := by
  have := splitG_pre cur [] h
  simpa [splitG] using this
theorem splitG_cons {c : UInt8} {w : Bs} (cur post : Bs) (h : c ∉ w) : splitG c cur (w ++ c :: post) = (cur ++ w) :: splitG c [] post := by
  rw [splitG_pre cur _ h]; simp [splitG]
theorem splitG_ne (c : UInt8) : ∀ (l cur : Bs), splitG c cur l ≠ []
  | [], cur => by simp [splitG]
  | x :: xs, cur => by
    unfold splitG
    split
    · simp
    · exact splitG_ne c xs _
theorem splitG_len (c : UInt8) : ∀ (l cur : Bs), (splitG c cur l).length ≤ l.length + 1
  | [], cur => by simp [splitG]
  | x :: xs, cur => by
    unfold splitG
    split
    · have := splitG_len c xs []; simp; omega
    · have := splitG_len c xs (cur ++ [x]); simp; omega
/-- What is cut behind each piece. -/
theorem splitG_ends {c : UInt8} : ∀ {ws : List Bs}, (∀ w ∈ ws, c ∉ w) → splitG c [] (ws.flatMap (· ++ [c])) = ws ++ [[]]
  | [], _ => rfl
  | w :: ws, h => by
    have := splitG_cons [] (ws.flatMap (· ++ [c])) (h w (by simp))
    simp only [List.flatMap_cons, List.append_assoc, List.cons_append, List.nil_append] at this ⊢
    rw [this, splitG_ends fun v hv => h v (by simp [hv])]
theorem splitK_one (c : UInt8) : ∀ (n : Nat) (s : Bs), s.length ≤ n → Lib.splitK [c] 0 (Lib.count s [c]) s = splitG c [] s
  | n, s, hn => by
    have hi := index_one c s
    cases h : idx c s with
    | none =>
      rw [h] at hi
      rw [Lib.count_miss hi, splitG_one [] (idx_none.1 h)]
      rfl
    | some i =>
      rw [h] at hi
      have hi : Lib.index s [c] = (i : Int) := hi
      obtain ⟨a, b, rfl, rfl, h3⟩ := idx_split h
      rw [Lib.count_hit (by simp) hi, Nat.add_comm, splitG_cons [] b h3]
      have hm : ¬ (Lib.index (a ++ c :: b) [c] == -1) = true := fun e => by have := beq_iff_eq.1 e; omega
      unfold Lib.splitK
      rw [if_neg hm, hi]
      have e1 : ((a.length : Int)).toNat = a.length := by omega
      simp only [e1, List.length_singleton, Nat.add_zero, List.nil_append]
      have e2 : (a ++ c :: b).drop (a.length + 1) = b := by simp
      have e3 : (a ++ c :: b).take a.length = a := by simp
      rw [e2, e3]
      cases n with
      | zero => simp at hn
      | succ n => rw [splitK_one c n b (by simp at hn; omega)]
theorem lSplit_mk (c : UInt8) {l : Bs} (h : l.length < 4294967281) : lSplit (mk l) (mk [c]) = some ((splitG c [] l).map mk) := by
  unfold lSplit
  rw [if_pos ⟨by rw [mk_size]; exact h, by rw [mk_size]; simp⟩]
  congr 1
  have e := Lib.splitB_data (mk [c]) 0 (Lib.countB (mk l) (mk [c])) (mk l)
  have e1 : (mk l).data.toList = l := un_mk l
  have e2 : (mk [c]).data.toList = [c] := un_mk [c]
  unfold Lib.countB at e ⊢
  rw [e1, e2, splitK_one c l.length l (Nat.le_refl _)] at e
  rw [e1, e2, ← e, List.map_map]
  have : (mk ∘ fun x : ByteArray => x.data.toList) = id := funext fun x => mk_un x
  rw [this, List.map_id]
theorem lCut_mk (c : UInt8) {l : Bs} (h : l.length < 4294967281) : lCut (mk l) (mk [c]) = some (match idx c l with | some i => ⟨mk (l.take i), mk (l.drop (i + 1)), true⟩ | none => ⟨mk l, mk [], false⟩) := by
  unfold lCut
  rw [if_pos (by rw [mk_size]; exact h)]
  have e1 : (mk l).data.toList = l := un_mk l
  have e2 : (mk [c]).data.toList = [c] := un_mk [c]
  rw [e1, e2]
  unfold Lib.cut
  rw [index_one]
  cases hi : idx c l with
  | none => rfl
  | some i => simp [mk]
theorem lItoa_mk {n : Int} (h : -9223372036854775808 ≤ n) (h2 : n ≤ 9223372036854775807) : lItoa n = some (mk (Lib.itoa n)) := by
  unfold lItoa
  rw [if_pos ⟨h, h2⟩]; rfl
end Go.Fs.Pl
namespace Go.Fs.Pl
open Go.Lib (decDigits itoa atoiAll parseMag parseUint10 atoiSat NumEnd)
theorem dd_small {u : Nat} (h : u < 10) : decDigits u = [UInt8.ofNat (48 + u)] := by rw [decDigits, dif_pos h]
theorem dd_big {u : Nat} (h : ¬ u < 10) : decDigits u = decDigits (u / 10) ++ [UInt8.ofNat (48 + u % 10)] := by rw [decDigits, dif_neg h]
theorem dd_len : ∀ (k u : Nat), u < 10 ^ (k + 1) → (decDigits u).length ≤ k + 1
  | 0, u, h => by rw [dd_small (by simpa using h)]; simp
  | k + 1, u, h => by
    by_cases h0 : u < 10
    · rw [dd_small h0]; simp
    · rw [dd_big h0]
      have := dd_len k (u / 10) (by rw [Nat.pow_succ] at h; omega)
      simp; omega
theorem dd_ne (u : Nat) : decDigits u ≠ [] := by
  by_cases h0 : u < 10
  · rw [dd_small h0]; simp
  · rw [dd_big h0]; simp
theorem of48 {d : Nat} (h : d < 10) : (UInt8.ofNat (48 + d)).toNat = 48 + d := by simp; omega
theorem dd_mem (u : Nat) : ∀ x ∈ decDigits u, 48 ≤ x.toNat ∧ x.toNat ≤ 57 := by
  induction u using Nat.strongRecOn with
  | _ u ih =>
    by_cases h0 : u < 10
    · rw [dd_small h0]
      intro x hx
      simp only [List.mem_singleton] at hx
      subst hx
      rw [of48 h0]; omega
    · rw [dd_big h0]
      intro x hx
      simp only [List.mem_append, List.mem_singleton] at hx
      rcases hx with hx | rfl
      · exact ih (u / 10) (by omega) x hx
      · rw [of48 (by omega)]; omega
theorem dd_head (u : Nat) {x : UInt8} {r : Bs} (h : decDigits u = x :: r) (hx : x.toNat = 48) : u = 0 := by
  induction u using Nat.strongRecOn generalizing x r with
  | _ u ih =>
    by_cases h0 : u < 10
    · rw [dd_small h0] at h
      injection h with h1 h2
      rw [← h1, of48 h0] at hx
      omega
    · rw [dd_big h0] at h
      cases e : decDigits (u / 10) with
      | nil => exact absurd e (dd_ne _)
      | cons y ys =>
        rw [e] at h
        injection h with h1 h2
        have := ih (u / 10) (by omega) e (by rw [h1]; exact hx)
        omega
theorem itoa_nat {n : Int} (h : 0 ≤ n) : itoa n = decDigits n.toNat := by unfold itoa; rw [if_neg (by omega)]
theorem itoa_neg {n : Int} (h : n < 0) : itoa n = 45 :: decDigits n.natAbs := by unfold itoa; rw [if_pos h]
theorem itoa_len {n : Int} (h : -100000000000000000 < n) (h2 : n < 100000000000000000) : (itoa n).length ≤ 18 := by
  unfold itoa
  split
  · have := dd_len 16 n.natAbs (by simp; omega)
    simp; omega
  · have := dd_len 16 n.toNat (by simp; omega)
    omega
theorem itoa_mem {n : Int} : ∀ x ∈ itoa n, x.toNat = 45 ∨ (48 ≤ x.toNat ∧ x.toNat ≤ 57) := by
  intro x hx
  unfold itoa at hx
  split at hx
  · simp only [List.mem_cons] at hx
    rcases hx with rfl | hx
    · exact .inl rfl
    · exact .inr (dd_mem _ x hx)
  · exact .inr (dd_mem _ x hx)

def digV : Int → Bs → Option Int
  | acc, [] => some acc
  | acc, x :: xs => if (x.toNat : Int) < 48 ∨ (57 : Int) < (x.toNat : Int) then none else digV (IntKind.i64.wrap (IntKind.i64.wrap (acc * 10) + IntKind.i64.wrap (IntKind.u8.wrap ((x.toNat : Int) - 48)))) xs
theorem digV_app : ∀ (l m : Bs) (acc : Int), digV acc (l ++ m) = (digV acc l).bind fun v => digV v m
  | [], m, acc => rfl
  | x :: xs, m, acc => by
    simp only [List.cons_append, digV]
    split
    · rfl
    · exact digV_app xs m _
theorem digV_dd (u : Nat) (h : u < 4611686018427387904) : digV 0 (decDigits u) = some (u : Int) := by
  induction u using Nat.strongRecOn with
  | _ u ih =>
    by_cases h0 : u < 10
    · rw [dd_small h0]
      simp only [digV]
      rw [of48 h0, if_neg (by omega), wrapu8 (by omega) (by omega), wrap64 (n := 0 * 10) (by omega) (by omega), wrap64 (n := ((48 + u : Nat) : Int) - 48) (by omega) (by omega), wrap64 (by omega) (by omega)]
      congr 1; omega
    · rw [dd_big h0, digV_app, ih (u / 10) (by omega) (by omega)]
      simp only [Option.bind_some, digV]
      have h1 : u % 10 < 10 := by omega
      rw [of48 h1, if_neg (by omega), wrapu8 (by omega) (by omega), wrap64 (n := ((u / 10 : Nat) : Int) * 10) (by omega) (by omega), wrap64 (n := ((48 + u % 10 : Nat) : Int) - 48) (by omega) (by omega), wrap64 (by omega) (by omega)]
      congr 1; omega
def numT (neg : Bool) (t : Bs) : Int × Bool :=
  if t.length = 0 ∨ 17 < t.length then (0, false) else if t.getD 0 0 = 48 ∧ (1 < t.length ∨ neg = true) then (0, false) else match digV 0 t with
    | none => (0, false)
    | some v => (if neg = true then IntKind.i64.wrap (0 - v) else v, true)
def numS (l : Bs) : Int × Bool := if 0 < l.length ∧ l.getD 0 0 = 45 then numT true (l.drop 1) else numT false l
theorem numT_dd (neg : Bool) (u : Nat) (h : u < 100000000000000000) (h2 : neg = true → u ≠ 0) : numT neg (decDigits u) = (if neg = true then -(u : Int) else (u : Int), true) := by
  unfold numT
  have h1 := dd_len 16 u (by simpa using h)
  have h3 := dd_ne u
  rw [if_neg (by
    intro h4
    rcases h4 with h4 | h4
    · exact h3 (List.length_eq_zero_iff.1 h4)
    · omega), if_neg, digV_dd u (by omega)]
  · simp only
    cases neg
    · rfl
    · simp only [if_true]; rw [wrap64 (by omega) (by omega)]; congr 1; omega
  · rintro ⟨h4, h5⟩
    cases e : decDigits u with
    | nil => exact h3 e
    | cons x r =>
      rw [e] at h4 h5
      have h4 : x = 48 := by simpa using h4
      have := dd_head u e (by rw [h4]; rfl)
      subst this
      rcases h5 with h5 | h5
      · rw [← e, dd_small (by omega)] at h5; simp at h5
      · exact h2 h5 rfl
theorem numS_itoa {n : Int} (h : -100000000000000000 < n) (h2 : n < 100000000000000000) : numS (itoa n) = (n, true) := by
  unfold numS
  by_cases h0 : n < 0
  · rw [itoa_neg h0, if_pos ⟨by simp, by simp⟩]
    simp only [List.drop_one, List.tail_cons]
    rw [numT_dd true _ (by omega) (fun _ => by omega)]
    simp only [if_true]; congr 1; omega
  · rw [itoa_nat (by omega), if_neg, numT_dd false _ (by omega) (fun h => by cases h)]
    · simp only [Bool.false_eq_true, if_false]; congr 1; omega
    · rintro ⟨h3, h4⟩
      cases e : decDigits n.toNat with
      | nil => exact dd_ne _ e
      | cons x r =>
        rw [e] at h4
        have h4 : x = 45 := by simpa using h4
        have := dd_mem n.toNat x (by rw [e]; simp)
        rw [h4] at this
        have e : (45 : UInt8).toNat = 45 := rfl
        omega

def numI (l : Bs) : Int × Bool := match atoiAll l with
  | .ok v => (v, decide (itoa v = l))
  | .range => (atoiSat l, false)
  | _ => (0, false)
theorem pu_app : ∀ (l m : Bs) (acc u : Nat), parseUint10 acc l = .ok u → parseUint10 acc (l ++ m) = parseUint10 u m
  | [], m, acc, u, h => by simp only [parseUint10] at h; injection h with h; subst h; rfl
  | x :: xs, m, acc, u, h => by
    simp only [List.cons_append, parseUint10] at h ⊢
    split at h
    · next h1 =>
      rw [if_pos h1]
      split at h
      · cases h
      · next h2 =>
        rw [if_neg h2]
        split at h
        · cases h
        · next h3 => rw [if_neg h3]; exact pu_app xs m _ u h
    · cases h
theorem pu_dd (u : Nat) (h : u ≤ 9223372036854775808) : parseUint10 0 (decDigits u) = .ok u := by
  induction u using Nat.strongRecOn with
  | _ u ih =>
    by_cases h0 : u < 10
    · rw [dd_small h0]
      simp only [parseUint10]
      rw [of48 h0, if_pos (by omega), if_neg (by omega), if_neg (by omega)]
      congr 1; omega
    · rw [dd_big h0, pu_app _ _ 0 (u / 10) (ih (u / 10) (by omega) (by omega))]
      simp only [parseUint10]
      have h1 : u % 10 < 10 := by omega
      rw [of48 h1, if_pos (by omega), if_neg (by omega), if_neg (by omega)]
      congr 1; omega
theorem pm_dd (u : Nat) (h : u ≤ 9223372036854775808) : parseMag (decDigits u) = .ok u := by
  unfold parseMag
  rw [if_neg (dd_ne u), pu_dd u h]
theorem atoi_itoa {n : Int} (h : -9223372036854775808 ≤ n) (h2 : n ≤ 9223372036854775807) : atoiAll (itoa n) = .ok n := by
  by_cases h0 : n < 0
  · rw [itoa_neg h0]
    unfold atoiAll
    have e : (45 : UInt8).toNat = 45 := rfl
    simp only [e]
    rw [if_pos (by simp), pm_dd _ (by omega)]
    simp only
    rw [if_neg (by simp), if_neg (by simp; omega), if_pos (by simp)]
    congr 1; omega
  · rw [itoa_nat (by omega)]
    cases e : decDigits n.toNat with
    | nil => exact absurd e (dd_ne _)
    | cons x r =>
      have hx := dd_mem n.toNat x (by rw [e]; simp)
      unfold atoiAll
      simp only
      rw [if_neg (by omega), ← e, pm_dd _ (by omega)]
      simp only
      rw [if_neg (by omega), if_neg (by omega), if_neg (by omega)]
      congr 1; omega
theorem numI_itoa {n : Int} (h : -9223372036854775808 ≤ n) (h2 : n ≤ 9223372036854775807) : numI (itoa n) = (n, true) := by
  unfold numI
  rw [atoi_itoa h h2]
  simp
theorem atoiAll_rng {l : Bs} {v : Int} (h : atoiAll l = .ok v) : -9223372036854775808 ≤ v ∧ v ≤ 9223372036854775807 := by
  unfold atoiAll at h
  split at h
  · cases h
  · next c r =>
    simp only at h
    split at h
    · cases h
    · cases h
    · next u hu =>
      split at h
      · cases h
      · split at h
        · cases h
        · injection h with h
          subst h
          split <;> omega
end Go.Fs.Pl
namespace Go.Fs.Se
open Go.Fs Go.Fs.Pl
open Go.Lib (decDigits itoa)
theorem bindB_t {ρ : Type} (K : Bool → Option ρ) (b : Bool) : bindB (some b) K = K b := rfl
theorem mk_ne {l : Bs} : mk l = ByteArray.mk #[] ↔ l = [] := ⟨fun h => mk_inj.1 h, fun h => by rw [h]; rfl⟩
theorem b0_eq (l : Bs) (c : UInt8) : (byteAt (mk l) 0 = (c.toNat : Int)) ↔ l.getD 0 0 = c := by
  have := byteAt_mk l 0
  rw [show ((0 : Int)) = ((0 : Nat) : Int) from rfl, this]
  exact toNat_eq
theorem capS {n : Nat} (h : n < 4611686018427) : (n + 1) * 16 ≤ 140737488355328 ∧ n ≤ 140737488355327 := by omega

theorem l70_p {a : Bs} (ha : a.length < 4611686018427387904) (c : UInt8) : ∀ (post pre : Bs), a = pre ++ post → l70_2 (mk a) (U8.mk (c.toNat : Int)) (pre.length : Int) = some (match idx c post with | some i => ((pre.length + i : Nat) : Int) | none => -1)
  | [], pre, h => by
    rw [l70_2_eq, mk_size, if_neg (by rw [h]; simp)]; rfl
  | x :: xs, pre, h => by
    have hl : pre.length < a.length := by rw [h]; simp
    rw [l70_2_eq, mk_size, if_pos (by omega), if_pos ⟨by omega, by omega⟩, h, byteAt_at]
    simp only [toNat_eq, idx]
    by_cases e : x = c
    · rw [if_pos e, if_pos e]; rfl
    · rw [if_neg e, if_neg e, w1 (by omega), ← h]
      have := l70_p ha c xs (pre ++ [x]) (by rw [h]; simp)
      simp only [List.length_append, List.length_singleton] at this
      rw [this]
      cases idx c xs with
      | none => rfl
      | some i =>
        show some (((pre.length + 1 + i : Nat) : Int)) = some (((pre.length + (i + 1) : Nat) : Int))
        congr 1; omega
theorem n70_p {a : Bs} (ha : a.length < 4611686018427387904) (c : UInt8) : n70 (mk a) (U8.mk (c.toNat : Int)) = some (match idx c a with | some i => (i : Int) | none => -1) := by
  rw [n70_eq]
  have := l70_p ha c a [] rfl
  simpa using this
theorem mid (p q r : Bs) : (mk (p ++ q ++ r)).extract p.length (p ++ q).length = mk q := by
  rw [mk_extract]
  congr 1
  rw [List.take_left, List.drop_left]
theorem l37_p {a : Bs} (ha : a.length < 1000000000000) (c : UInt8) : ∀ (post p0 cur : Bs) (r0 : List ByteArray), a = p0 ++ cur ++ post → r0.length ≤ p0.length →
    l37_4 (mk a) (U8.mk (c.toNat : Int)) (p0.length : Int) ((p0 ++ cur).length : Int) r0 = some (r0 ++ (splitG c cur post).map mk)
  | [], p0, cur, r0, h, hr => by
    have hl : a.length = (p0 ++ cur).length := by rw [h]; simp
    have hp : p0.length ≤ (p0 ++ cur).length := by simp
    rw [l37_4_eq, mk_size, if_pos (by omega), if_pos (by omega), bindB_t, if_pos rfl, if_pos (by omega), if_pos (by omega)]
    simp only [Int.toNat_natCast]
    rw [if_pos ⟨hp, by omega⟩, if_pos (capS (by omega)), w1 (by omega), l37_4_eq, mk_size, if_neg (by omega)]
    have := mid p0 cur []
    rw [h, this]; rfl
  | x :: xs, p0, cur, r0, h, hr => by
    have hl : (p0 ++ cur).length < a.length := by rw [h]; simp
    have hp : p0.length ≤ (p0 ++ cur).length := by simp
    have hb : byteAt (mk a) ((p0 ++ cur).length : Int) = (x.toNat : Int) := by rw [h]; exact byteAt_at _ _ _
    rw [l37_4_eq, mk_size, if_pos (by omega), if_neg (by omega), if_pos ⟨by omega, by omega⟩, bindB_t, hb]
    simp only [toNat_eq, decide_eq_true_eq, splitG]
    by_cases e : x = c
    · rw [if_pos e, if_pos e, if_pos (by omega), if_pos (by omega)]
      simp only [Int.toNat_natCast]
      rw [if_pos ⟨hp, by omega⟩, if_pos (capS (by omega)), w1 (by omega)]
      have ih := l37_p ha c xs (p0 ++ cur ++ [x]) [] (r0 ++ [mk cur]) (by rw [h]; simp) (by simp; omega)
      have hm := mid p0 cur (x :: xs)
      rw [← h] at hm
      rw [hm]
      simp only [List.append_nil, List.length_append, List.length_singleton] at ih ⊢
      rw [ih]
      simp
    · rw [if_neg e, if_neg e, w1 (by omega)]
      have ih := l37_p ha c xs p0 (cur ++ [x]) r0 (by rw [h]; simp) hr
      simp only [List.length_append, List.length_singleton] at ih ⊢
      rw [← Nat.add_assoc] at ih
      exact ih
theorem n37_p {a : Bs} (ha : a.length < 1000000000000) (c : UInt8) : n37 (mk a) (U8.mk (c.toNat : Int)) = some ((splitG c [] a).map mk) := by
  rw [n37_eq]
  have := l37_p ha c a [] [] [] (by simp) (by simp)
  simpa using this
theorem l38_p {a0 : ByteArray} {xs : List ByteArray} (hx : xs.length < 1000000000000) : ∀ (post pre : List ByteArray) (r0 : List ByteArray), xs = pre ++ post → r0.length ≤ pre.length →
    l38_4 a0 xs (pre.length : Int) r0 = some (r0 ++ post.filter fun y => !decide (y = ByteArray.mk #[]))
  | [], pre, r0, h, hr => by
    rw [l38_4_eq, if_neg (by rw [h]; simp)]; simp
  | y :: ys, pre, r0, h, hr => by
    have hl : pre.length < xs.length := by rw [h]; simp
    have hg : getI xs (pre.length : Int) = some y := by rw [h]; exact getI_at _ _ _
    rw [l38_4_eq, if_pos (by omega), hg, w1 (by omega)]
    simp only [Option.bind_some]
    by_cases e : y = ByteArray.mk #[]
    · have ih := l38_p (a0 := a0) hx ys (pre ++ [y]) r0 (by rw [h]; simp) (by simp; omega)
      simp only [List.length_append, List.length_singleton] at ih
      rw [if_neg (by simp [e]), ih]
      simp [e]
    · have ih := l38_p (a0 := a0) hx ys (pre ++ [y]) (r0 ++ [y]) (by rw [h]; simp) (by simp; omega)
      simp only [List.length_append, List.length_singleton] at ih
      rw [if_pos (by simp [e]), if_pos (capS (by omega)), ih]
      simp [e]
/-- The words of a line. -/
def wordsS (l : Bs) : List Bs := (splitG 32 [] l).filter fun w => !decide (w = [])
theorem n38_p {a : Bs} (ha : a.length < 100000000000) : n38 (mk a) = some ((wordsS a).map mk) := by
  rw [n38_eq]
  have h37 := n37_p (a := a) (by omega) 32
  have e32 : U8.mk (((32 : UInt8).toNat : Nat) : Int) = U8.mk 32 := rfl
  rw [e32] at h37
  rw [h37]
  simp only [Option.bind_some]
  have hs := splitG_len 32 a []
  have := l38_p (a0 := mk a) (xs := (splitG 32 [] a).map mk) (by simp; omega) ((splitG 32 [] a).map mk) [] [] rfl (by simp)
  simp only [List.length_nil, List.nil_append] at this
  rw [show ((0 : Int)) = ((0 : Nat) : Int) from rfl, this, wordsS, List.filter_map]
  congr 2
  apply List.filter_congr
  intro w hw
  simp only [Function.comp_apply, mk_ne]

theorem l40_p {a : ByteArray} {t : Bs} (ht : t.length < 4611686018427387904) (neg : Bool) : ∀ (post pre : Bs) (acc : Int), t = pre ++ post →
    l40_8 a (mk t) neg acc (pre.length : Int) = some (match digV acc post with | none => (0, false) | some v => (if neg = true then IntKind.i64.wrap (0 - v) else v, true))
  | [], pre, acc, h => by
    rw [l40_8_eq, mk_size, if_neg (by rw [h]; simp)]
    simp only [digV]
    split <;> rfl
  | x :: xs, pre, acc, h => by
    have hl : pre.length < t.length := by rw [h]; simp
    have hb : byteAt (mk t) (pre.length : Int) = (x.toNat : Int) := by rw [h]; exact byteAt_at _ _ _
    rw [l40_8_eq, mk_size, if_pos (by omega), if_pos ⟨by omega, by omega⟩, hb]
    simp only [digV]
    by_cases e : (x.toNat : Int) < 48
    · rw [if_pos e, bindB_t, if_pos rfl, if_pos (.inl e)]
    · rw [if_neg e, if_pos ⟨by omega, by omega⟩, bindB_t]
      by_cases e2 : (57 : Int) < (x.toNat : Int)
      · rw [if_pos (by simp only [decide_eq_true_eq]; exact e2), if_pos (.inr e2)]
      · rw [if_neg (by simp only [decide_eq_true_eq]; exact e2), if_pos ⟨by omega, by omega⟩, if_neg (by omega), w1 (by omega)]
        have ih := l40_p (a := a) ht neg xs (pre ++ [x]) (IntKind.i64.wrap (IntKind.i64.wrap (acc * 10) + IntKind.i64.wrap (IntKind.u8.wrap ((x.toNat : Int) - 48)))) (by rw [h]; simp)
        simp only [List.length_append, List.length_singleton] at ih
        exact ih
theorem num_tail {a : ByteArray} {t : Bs} (ht : t.length < 4611686018427387904) (neg : Bool) :
    (bindB (if ((mk t).size : Int) = 0 ∨ 17 < ((mk t).size : Int) then some true else if 0 < ((mk t).size : Int) then some (decide (byteAt (mk t) 0 = 48) && (decide (1 < ((mk t).size : Int)) || neg)) else none) fun y1 => if y1 = true then some (0, false) else l40_8 a (mk t) neg 0 0) = some (numT neg t) := by
  have hb := b0_eq t 48
  have e48 : (((48 : UInt8).toNat : Nat) : Int) = 48 := rfl
  rw [e48] at hb
  rw [mk_size]
  unfold numT
  by_cases h : t.length = 0 ∨ 17 < t.length
  · rw [if_pos (by omega), if_pos h, bindB_t, if_pos rfl]
  · rw [if_neg (by omega), if_neg h, if_pos (by omega), bindB_t]
    by_cases h2 : t.getD 0 0 = 48 ∧ (1 < t.length ∨ neg = true)
    · rw [if_pos h2, if_pos]
      simp only [Bool.and_eq_true, Bool.or_eq_true, decide_eq_true_eq, hb]
      exact ⟨h2.1, h2.2.imp (by omega) id⟩
    · rw [if_neg h2, if_neg]
      · exact l40_p ht neg t [] 0 rfl
      · simp only [Bool.and_eq_true, Bool.or_eq_true, decide_eq_true_eq, hb]
        intro h3
        exact h2 ⟨h3.1, h3.2.imp (by omega) id⟩
theorem n40_p {a : Bs} (ha : a.length < 4611686018427387904) : n40 (mk a) = some (numS a) := by
  have hb := b0_eq a 45
  have e45 : (((45 : UInt8).toNat : Nat) : Int) = 45 := rfl
  rw [e45] at hb
  rw [n40_eq]
  unfold numS
  by_cases h0 : 0 < a.length
  · rw [if_pos (by rw [mk_size]; omega), if_pos (by rw [mk_size]; omega), bindB_t]
    by_cases h1 : a.getD 0 0 = 45
    · have hx : (mk a).extract 1 (mk a).size = mk (a.drop 1) := by rw [mk_extract, mk_size, List.take_length]
      rw [if_pos (by simp only [decide_eq_true_eq, hb]; exact h1), if_pos (by rw [mk_size]; omega), hx, if_pos (⟨h0, h1⟩ : 0 < a.length ∧ a.getD 0 0 = 45)]
      have hd : decide (byteAt (mk a) 0 = 45) = true := by simp only [decide_eq_true_eq, hb]; exact h1
      rw [hd]
      exact num_tail (by rw [List.length_drop]; omega) true
    · have hd : decide (byteAt (mk a) 0 = 45) = false := by simp only [decide_eq_false_iff_not, hb]; exact h1
      rw [hd, if_neg (by simp), if_neg (c := 0 < a.length ∧ a.getD 0 0 = 45) (fun h => h1 h.2)]
      exact num_tail ha false
  · rw [if_neg (by rw [mk_size]; omega), bindB_t, if_neg (by simp), if_neg (c := 0 < a.length ∧ a.getD 0 0 = 45) (fun h => h0 h.1)]
    exact num_tail ha false
theorem n46_p {a : Bs} (ha : a.length ≤ 281474976710656) : n46 (mk a) = some (numI a) := by
  rw [n46_eq]
  unfold lAtoi numI
  have e1 : (mk a).data.toList = a := un_mk a
  rw [if_pos (by rw [mk_size]; exact ha), e1]
  simp only [Option.bind_some]
  cases h : Lib.atoiAll a
  case ok v =>
    have hr := atoiAll_rng h
    simp only [Bool.false_eq_true, if_true]
    rw [lItoa_mk hr.1 hr.2]
    simp only [Option.bind_some, bindB_t, mk_inj]
  all_goals simp [bindB_t]
theorem bS1 (d : Nat) (h : d < 10) : bytesS [IntKind.u8.wrap (IntKind.i64.wrap (48 + (d : Int)))] = mk [UInt8.ofNat (48 + d)] := by
  rw [wrap64 (by omega) (by omega), wrapu8 (by omega) (by omega)]
  have : ((48 : Int) + (d : Int)).toNat = 48 + d := by omega
  unfold bytesS
  simp only [List.foldl_cons, List.foldl_nil, this]
  rfl
theorem l30_p {a : Int} (u : Nat) : ∀ (m : Bs), m.length + u < 4611686018427387904 → l30_6 a (u : Int) (mk m) = some (mk (decDigits u ++ m)) := by
  induction u using Nat.strongRecOn with
  | _ u ih =>
    intro m hm
    rw [l30_6_eq]
    by_cases h0 : u < 10
    · rw [if_neg (by omega), bS1 u h0, cat_mk (by simp; omega), dd_small h0]
    · have e1 : (u : Int).tmod 10 = ((u % 10 : Nat) : Int) := by rw [Int.tmod_eq_emod_of_nonneg (by omega)]; omega
      have e2 : (u : Int).tdiv 10 = ((u / 10 : Nat) : Int) := by rw [Int.tdiv_eq_ediv_of_nonneg (by omega)]; omega
      rw [if_pos (by omega), e1, bS1 _ (by omega), cat_mk (by simp; omega)]
      simp only [Option.bind_some]
      rw [e2, wrap64 (by omega) (by omega), ih (u / 10) (by omega) _ (by simp; omega), dd_big h0]
      simp
theorem n30_p {n : Int} (h : -4611686018427387904 < n) (h2 : n < 4611686018427387904) : n30 n = some (mk (itoa n)) := by
  have hp : ∀ u : Nat, u < 4611686018427387904 → n30 (u : Int) = some (mk (decDigits u)) := fun u hu => by
    rw [n30_eq, if_neg (by omega), if_neg (by omega)]
    have := l30_p (a := u) u [] (by simpa using hu)
    rw [List.append_nil] at this
    exact this
  by_cases h0 : n < 0
  · rw [n30_eq, if_neg (by omega), if_pos h0, wrap64 (by omega) (by omega), itoa_neg h0]
    have e : (0 - n) = (n.natAbs : Int) := by omega
    rw [e, hp _ (by omega)]
    simp only [Option.bind_some]
    have hl := dd_len 18 n.natAbs (by simp; omega)
    exact cat_mk (l := [45]) (by simp; omega)
  · rw [itoa_nat (by omega)]
    have e := hp n.toNat (by omega)
    rw [show ((n.toNat : Nat) : Int) = n by omega] at e
    exact e
end Go.Fs.Se
namespace Go.Fs.Se
open Go.Fs Go.Fs.Pl
open Go.Lib (decDigits itoa)
def idxW (a : ByteArray) : List ByteArray → Option Nat
  | [] => none
  | x :: xs => if a = x then some 0 else (idxW a xs).map (· + 1)
def memW (a : ByteArray) : List ByteArray → Bool
  | [] => false
  | x :: xs => decide (a = x) || memW a xs
theorem idxW_mem {a : ByteArray} : ∀ {xs : List ByteArray}, (idxW a xs).isSome = memW a xs
  | [] => rfl
  | x :: xs => by
    unfold idxW memW
    by_cases h : a = x
    · simp [h]
    · rw [if_neg h]
      simp [h, idxW_mem (xs := xs)]
theorem l85_p {xs : List ByteArray} {a : ByteArray} (hx : xs.length < 4611686018427387904) : ∀ (post pre : List ByteArray), xs = pre ++ post →
    l85_2 xs a (pre.length : Int) = some (match idxW a post with | some i => ((pre.length + i : Nat) : Int) | none => -1)
  | [], pre, h => by rw [l85_2_eq, if_neg (by rw [h]; simp)]; rfl
  | x :: ys, pre, h => by
    have hl : pre.length < xs.length := by rw [h]; simp
    have hg : getI xs (pre.length : Int) = some x := by rw [h]; exact getI_at _ _ _
    rw [l85_2_eq, if_pos (by omega), hg]
    simp only [Option.bind_some, idxW]
    by_cases e : a = x
    · rw [if_pos e, if_pos e]; rfl
    · rw [if_neg e, if_neg e, w1 (by omega)]
      have := l85_p (a := a) hx ys (pre ++ [x]) (by rw [h]; simp)
      simp only [List.length_append, List.length_singleton] at this
      rw [this]
      cases idxW a ys with
      | none => rfl
      | some i =>
        show some (((pre.length + 1 + i : Nat) : Int)) = some (((pre.length + (i + 1) : Nat) : Int))
        congr 1; omega
theorem n85_p {xs : List ByteArray} (hx : xs.length < 4611686018427387904) (a : ByteArray) : n85 xs a = some (match idxW a xs with | some i => (i : Int) | none => -1) := by
  rw [n85_eq]
  have := l85_p (a := a) hx xs [] rfl
  simpa using this
theorem n140_p {xs : List ByteArray} (hx : xs.length < 4611686018427387904) (a : ByteArray) : n140 xs a = some (memW a xs) := by
  rw [n140_eq, n85_p hx, ← idxW_mem]
  cases h : idxW a xs with
  | none => rfl
  | some i => simp
theorem l97_p {xs : List ByteArray} {a : ByteArray} (hx : xs.length < 4611686018427387904) : ∀ (post pre : List ByteArray), xs = pre ++ post → l97_3 a (pre.length : Int) xs = some (memW a post)
  | [], pre, h => by rw [l97_3_eq, if_neg (by rw [h]; simp)]; rfl
  | x :: ys, pre, h => by
    have hl : pre.length < xs.length := by rw [h]; simp
    have hg : getI xs (pre.length : Int) = some x := by rw [h]; exact getI_at _ _ _
    have hg2 : xs[((pre.length : Int)).toNat]? = some x := by rw [h]; simp
    rw [l97_3_eq, if_pos (by omega), hg, hg2]
    simp only [Option.bind_some]
    by_cases e : x = a
    · rw [if_pos e]; simp [memW, e]
    · rw [if_neg e, w1 (by omega)]
      have := l97_p (a := a) hx ys (pre ++ [x]) (by rw [h]; simp)
      simp only [List.length_append, List.length_singleton] at this
      rw [this]
      simp [memW, Ne.symm e]

theorem orB {ρ : Type} {p q r : Prop} [Decidable p] [Decidable q] [Decidable r] (hq : q) (K : Bool → Option ρ) : bindB (if p then some true else if q then some (decide r) else none) K = K (decide p || decide r) := by
  by_cases h : p
  · rw [if_pos h]; simp [bindB_t, h]
  · rw [if_neg h, if_pos hq]; simp [bindB_t, h]
/-- The program's own words. -/
def ownW : List ByteArray := [ByteArray.mk #[117, 115, 101], ByteArray.mk #[102, 117, 110], ByteArray.mk #[112, 117, 98], ByteArray.mk #[109, 97, 105, 110], ByteArray.mk #[105, 110, 116], ByteArray.mk #[98, 111, 111, 108], ByteArray.mk #[114, 111, 119], ByteArray.mk #[105, 102], ByteArray.mk #[108, 101, 116], ByteArray.mk #[116, 114, 117, 101], ByteArray.mk #[102, 97, 108, 115, 101], ByteArray.mk #[97, 110, 100], ByteArray.mk #[111, 114], ByteArray.mk #[110, 111, 116], ByteArray.mk #[97, 116], ByteArray.mk #[108, 101, 110], ByteArray.mk #[112, 117, 116], ByteArray.mk #[106, 111, 105, 110], ByteArray.mk #[112, 114, 105, 110, 116]]
def isLow (x : UInt8) : Bool := !(decide ((x.toNat : Int) < 97) || decide ((122 : Int) < (x.toNat : Int)))
/-- A name: one to eight small letters, no own word. -/
def lexName (a : ByteArray) : Bool := decide (1 ≤ a.size ∧ a.size ≤ 8) && !memW a ownW && (un a).all isLow
theorem l54_p {a : Bs} (ha : a.length < 4611686018427387904) : ∀ (post pre : Bs), a = pre ++ post → l54_4 (mk a) (pre.length : Int) = some (post.all isLow)
  | [], pre, h => by rw [l54_4_eq, mk_size, if_neg (by rw [h]; simp)]; rfl
  | x :: xs, pre, h => by
    have hl : pre.length < a.length := by rw [h]; simp
    have hb : byteAt (mk a) (pre.length : Int) = (x.toNat : Int) := by rw [h]; exact byteAt_at _ _ _
    rw [l54_4_eq, mk_size, if_pos (by omega), if_pos ⟨by omega, by omega⟩, hb, orB ⟨by omega, by omega⟩, w1 (by omega)]
    have ih := l54_p ha xs (pre ++ [x]) (by rw [h]; simp)
    simp only [List.length_append, List.length_singleton] at ih
    have e0 : isLow x = !(decide ((x.toNat : Int) < 97) || decide ((122 : Int) < (x.toNat : Int))) := rfl
    rw [ih, List.all_cons, e0]
    cases decide ((x.toNat : Int) < 97) || decide ((122 : Int) < (x.toNat : Int)) <;> simp
theorem l62_p {a : Bs} (ha : a.length < 4611686018427387904) : ∀ (post pre : Bs), a = pre ++ post → l62_2 (mk a) (pre.length : Int) = some (post.all isLow && (decide (1 ≤ a.length ∧ a.length ≤ 8) && !memW (mk a) ownW))
  | [], pre, h => by
    rw [l62_2_eq, mk_size, if_neg (by rw [h]; simp), n57_eq, n106_eq]
    simp only [Option.bind_some, List.all_nil, Bool.true_and]
    by_cases e : 1 ≤ a.length ∧ a.length ≤ 8
    · rw [if_pos (by simp; omega)]
      have := n140_p (xs := ownW) (by decide) (mk a)
      unfold ownW at this ⊢
      rw [this]
      simp [e]
    · rw [if_neg (by simp; omega)]
      simp [e]
  | x :: xs, pre, h => by
    have hl : pre.length < a.length := by rw [h]; simp
    have hb : byteAt (mk a) (pre.length : Int) = (x.toNat : Int) := by rw [h]; exact byteAt_at _ _ _
    rw [l62_2_eq, mk_size, if_pos (by omega), if_pos ⟨by omega, by omega⟩, hb, orB ⟨by omega, by omega⟩, w1 (by omega)]
    have ih := l62_p ha xs (pre ++ [x]) (by rw [h]; simp)
    simp only [List.length_append, List.length_singleton] at ih
    rw [ih, List.all_cons]
    have e0 : isLow x = !(decide ((x.toNat : Int) < 97) || decide ((122 : Int) < (x.toNat : Int))) := rfl
    rw [e0]
    cases decide ((x.toNat : Int) < 97) || decide ((122 : Int) < (x.toNat : Int)) <;> simp
theorem n54_p {a : ByteArray} (ha : a.size < 4611686018427387904) : n54 a = some (lexName a) := by
  rw [n54_eq]
  unfold lexName
  by_cases e : (a.size : Int) < 1 ∨ (8 : Int) < (a.size : Int)
  · rw [if_pos e, bindB_t, if_pos rfl]
    have : ¬ (1 ≤ a.size ∧ a.size ≤ 8) := by omega
    simp [this]
  · rw [if_neg e, n97_eq]
    have h97 := l97_p (xs := ownW) (a := a) (by decide) ownW [] rfl
    have e0 : (([] : List ByteArray).length : Int) = 0 := rfl
    rw [e0] at h97
    unfold ownW at h97
    rw [h97, bindB_t]
    have h1 : (1 ≤ a.size ∧ a.size ≤ 8) := by omega
    have h54 := l54_p (a := un a) (by rw [un_len]; omega) (un a) [] rfl
    rw [mk_un] at h54
    have e0 : (([] : Bs).length : Int) = 0 := rfl
    rw [e0] at h54
    rw [h54]
    unfold ownW
    split
    · next h => rw [h]; simp
    · next h => rw [Bool.eq_false_iff.2 h]; simp [h1]
theorem n62_p {a : ByteArray} (ha : a.size < 4611686018427387904) : n62 a = some (lexName a) := by
  rw [n62_eq]
  have h62 := l62_p (a := un a) (by rw [un_len]; omega) (un a) [] rfl
  rw [mk_un, un_len] at h62
  have e0 : (([] : Bs).length : Int) = 0 := rfl
  rw [e0] at h62
  rw [h62]
  unfold lexName
  rw [Bool.and_comm]

def tyL (n : Int) : Bs := if n = 1 then [105, 110, 116] else if n = 2 then [98, 111, 111, 108] else if n = 3 then [114, 111, 119] else []
theorem n76_p (n : Int) : n76 n = some (mk (tyL n)) := by
  rw [n76_eq]
  unfold tyL
  by_cases h : n < 1 ∨ 3 < n
  · rw [if_pos h, if_neg (by omega), if_neg (by omega), if_neg (by omega)]; rfl
  · rw [if_neg h]
    have : n = 1 ∨ n = 2 ∨ n = 3 := by omega
    rcases this with rfl | rfl | rfl <;> rfl
theorem tyW_at : getI tyW 0 = some (mk (tyL 1)) ∧ getI tyW 1 = some (mk (tyL 2)) ∧ getI tyW 2 = some (mk (tyL 3)) := by
  refine ⟨?_, ?_, ?_⟩ <;> rfl
def isTy (n : Int) : Bool := decide (1 ≤ n) && decide (n ≤ 3)
theorem n129_p (n : Int) : n129 n = some (isTy n) := by rw [n129_eq, n57_eq]; rfl
theorem n164_p (n : Int) : n164 n = some !isTy n := by rw [n164_eq, n129_p]; rfl
theorem n127_p (n : Int) : n127 n = some (mk (tyL n)) := by
  rw [n127_eq, n129_p]
  simp only [Option.bind_some]
  unfold isTy
  by_cases h : 1 ≤ n ∧ n ≤ 3
  · rw [if_neg (by simp [h])]
    have : n = 1 ∨ n = 2 ∨ n = 3 := by omega
    obtain ⟨h1, h2, h3⟩ := tyW_at
    rcases this with rfl | rfl | rfl
    · exact h1
    · exact h2
    · exact h3
  · rw [if_pos (by simp; omega)]
    unfold tyL
    rw [if_neg (by omega), if_neg (by omega), if_neg (by omega)]; rfl
theorem tyL_nil {n : Int} : tyL n = [] ↔ isTy n = false := by
  unfold tyL isTy
  by_cases h : 1 ≤ n ∧ n ≤ 3
  · have : n = 1 ∨ n = 2 ∨ n = 3 := by omega
    rcases this with rfl | rfl | rfl <;> decide
  · rw [if_neg (by omega), if_neg (by omega), if_neg (by omega)]
    simp; omega
theorem tyL_low (n : Int) : (tyL n).all isLow = true := by
  unfold tyL
  split
  · decide
  · split
    · decide
    · split <;> decide
theorem tyL_len (n : Int) : (tyL n).length ≤ 4 := by
  unfold tyL
  split
  · decide
  · split
    · decide
    · split <;> decide
/-- The type that a word tells. -/
def kindI (l : Bs) : Int := if tyL 1 = l then 1 else if tyL 2 = l then 2 else if tyL 3 = l then 3 else 0
theorem kindI_ty {n : Int} (h : isTy n = true) : kindI (tyL n) = n := by
  unfold isTy at h
  simp only [Bool.and_eq_true, decide_eq_true_eq] at h
  have : n = 1 ∨ n = 2 ∨ n = 3 := by omega
  rcases this with rfl | rfl | rfl <;> decide
theorem n71_p (l : Bs) : n71 (mk l) = some (kindI l) := by
  rw [n71_eq, l71_2_eq, if_pos (by decide), n76_p]
  simp only [Option.bind_some, mk_inj]
  unfold kindI
  split
  · rfl
  · rw [show IntKind.i64.wrap ((1 : Int) + 1) = 2 from by decide, l71_2_eq, if_pos (by decide), n76_p]
    simp only [Option.bind_some, mk_inj]
    split
    · rfl
    · rw [show IntKind.i64.wrap ((2 : Int) + 1) = 3 from by decide, l71_2_eq, if_pos (by decide), n76_p]
      simp only [Option.bind_some, mk_inj]
      split
      · rfl
      · rw [show IntKind.i64.wrap ((3 : Int) + 1) = 4 from by decide, l71_2_eq, if_neg (by decide)]
theorem tyW_eq : tyW = [mk (tyL 1), mk (tyL 2), mk (tyL 3)] := rfl
theorem n84_p (l : Bs) : n84 (mk l) = some (kindI l) := by
  rw [n84_eq, n85_p (by decide), tyW_eq]
  unfold kindI
  simp only [Option.bind_some, idxW, mk_inj]
  by_cases h1 : l = tyL 1
  · rw [if_pos h1, if_pos h1.symm]; rfl
  · rw [if_neg h1, if_neg (Ne.symm h1)]
    by_cases h2 : l = tyL 2
    · rw [if_pos h2, if_pos h2.symm]; rfl
    · rw [if_neg h2, if_neg (Ne.symm h2)]
      by_cases h3 : l = tyL 3
      · rw [if_pos h3, if_pos h3.symm]; rfl
      · rw [if_neg h3, if_neg (Ne.symm h3)]; rfl

def kindsI (l : Bs) : List Int := if l = [] then [] else (splitG 44 [] l).map kindI
theorem cap8 {n : Nat} (h : n < 4611686018427) : (n + 1) * 8 ≤ 140737488355328 ∧ n ≤ 140737488355327 := by omega
theorem l72_p {a : ByteArray} {xs : List Bs} (hx : xs.length < 1000000000000) : ∀ (post pre : List Bs) (r0 : List Int), xs = pre ++ post → r0.length ≤ pre.length →
    l72_6 a (xs.map mk) (pre.length : Int) r0 = some (r0 ++ post.map kindI)
  | [], pre, r0, h, hr => by rw [l72_6_eq, if_neg (by rw [h]; simp)]; simp
  | y :: ys, pre, r0, h, hr => by
    have hl : pre.length < xs.length := by rw [h]; simp
    have hg : getI (xs.map mk) (pre.length : Int) = some (mk y) := by
      rw [h, List.map_append, List.map_cons]
      have := getI_at (pre.map mk) (ys.map mk) (mk y)
      rwa [List.length_map] at this
    rw [l72_6_eq, if_pos (by rw [List.length_map]; omega), hg, w1 (by omega)]
    simp only [Option.bind_some]
    rw [n71_p]
    simp only [Option.bind_some]
    rw [if_pos (cap8 (by omega))]
    have ih := l72_p (a := a) hx ys (pre ++ [y]) (r0 ++ [kindI y]) (by rw [h]; simp) (by simp; omega)
    simp only [List.length_append, List.length_singleton] at ih
    rw [ih]
    simp
theorem l83_p {a : ByteArray} {xs : List Bs} (hx : xs.length < 1000000000000) : ∀ (post pre : List Bs) (r0 : List Int), xs = pre ++ post → r0.length ≤ pre.length →
    l83_5 a (xs.map mk) (xs.length : Int) (pre.length : Int) r0 = some (r0 ++ post.map kindI)
  | [], pre, r0, h, hr => by rw [l83_5_eq, if_neg (by rw [h]; simp)]; simp
  | y :: ys, pre, r0, h, hr => by
    have hl : pre.length < xs.length := by rw [h]; simp
    have hg : getI (xs.map mk) (pre.length : Int) = some (mk y) := by
      rw [h, List.map_append, List.map_cons]
      have := getI_at (pre.map mk) (ys.map mk) (mk y)
      rwa [List.length_map] at this
    rw [l83_5_eq, if_pos (by omega), hg, w1 (by omega)]
    simp only [Option.bind_some]
    rw [n84_p]
    simp only [Option.bind_some]
    rw [if_pos (cap8 (by omega))]
    have ih := l83_p (a := a) hx ys (pre ++ [y]) (r0 ++ [kindI y]) (by rw [h]; simp) (by simp; omega)
    simp only [List.length_append, List.length_singleton] at ih
    rw [ih]
    simp
theorem n72_p {l : Bs} (hl : l.length < 100000000000) : n72 (mk l) = some (kindsI l) := by
  rw [n72_eq]
  unfold kindsI
  by_cases h : l = []
  · rw [if_pos (mk_ne.2 h), if_pos h]
  · rw [if_neg (fun e => h (mk_ne.1 e)), if_neg h]
    have h37 := n37_p (a := l) (by omega) 44
    have e : U8.mk (((44 : UInt8).toNat : Nat) : Int) = U8.mk 44 := rfl
    rw [e] at h37
    rw [h37]
    simp only [Option.bind_some]
    have hs := splitG_len 44 l []
    exact l72_p (by omega) _ [] [] rfl (by simp)
theorem n83_p {l : Bs} (hl : l.length < 4294967281) : n83 (mk l) = some (kindsI l) := by
  rw [n83_eq]
  unfold kindsI
  by_cases h : l = []
  · rw [if_pos (mk_ne.2 h), if_pos h]
  · rw [if_neg (fun e => h (mk_ne.1 e)), if_neg h]
    have h37 := lSplit_mk 44 hl
    have e : mk [44] = ByteArray.mk #[44] := rfl
    rw [e] at h37
    rw [h37]
    simp only [Option.bind_some]
    have hs := splitG_len 44 l []
    rw [List.length_map]
    exact l83_p (by omega) _ [] [] rfl (by simp)

/-- The text of a list of types. -/
def kindsL : List Int → Bs
  | [] => []
  | [n] => tyL n
  | n :: m :: r => tyL n ++ 44 :: kindsL (m :: r)
theorem kindsL_len : ∀ ns : List Int, (kindsL ns).length ≤ 5 * ns.length
  | [] => by simp [kindsL]
  | [n] => by have := tyL_len n; simp [kindsL]; omega
  | n :: m :: r => by
    have := tyL_len n
    have h2 := kindsL_len (m :: r)
    simp only [kindsL, List.length_append, List.length_cons] at h2 ⊢
    omega
theorem kindsL_snoc : ∀ (ns : List Int) (m : Int), kindsL (ns ++ [m]) = if ns = [] then tyL m else kindsL ns ++ 44 :: tyL m
  | [], m => by simp [kindsL]
  | [n], m => by simp [kindsL]
  | n :: k :: r, m => by
    have := kindsL_snoc (k :: r) m
    rw [if_neg (by simp)] at this ⊢
    simp only [List.cons_append, kindsL] at this ⊢
    rw [this]; simp
theorem l75_p {ns : List Int} (hx : ns.length < 1000000000) : ∀ (post pre : List Int), ns = pre ++ post → l75_3 ns (mk (kindsL pre)) (pre.length : Int) = some (mk (kindsL ns))
  | [], pre, h => by rw [l75_3_eq, if_neg (by rw [h]; simp)]; simp [h]
  | y :: ys, pre, h => by
    have hl : pre.length < ns.length := by rw [h]; simp
    have hg : getI ns (pre.length : Int) = some y := by rw [h]; exact getI_at _ _ _
    have hk := kindsL_len pre
    have ht := tyL_len y
    have ih := l75_p hx ys (pre ++ [y]) (by rw [h]; simp)
    simp only [List.length_append, List.length_singleton] at ih
    rw [kindsL_snoc] at ih
    rw [l75_3_eq, if_pos (by omega), hg, w1 (by omega)]
    have e44 : ByteArray.mk #[44] = mk [44] := rfl
    by_cases h0 : (0 : Int) < (pre.length : Int)
    · rw [if_pos h0, e44, cat_mk (by simp; omega)]
      simp only [Option.bind_some]
      rw [n76_p]
      simp only [Option.bind_some]
      rw [cat_mk (by simp; omega)]
      simp only [Option.bind_some]
      rw [if_neg (by intro e; rw [e] at h0; simp at h0)] at ih
      rw [← ih]
      simp
    · rw [if_neg h0]
      simp only [Option.bind_some]
      rw [n76_p]
      simp only [Option.bind_some]
      have hp : pre = [] := by
        cases pre with
        | nil => rfl
        | cons a b => simp at h0
      subst hp
      rw [cat_mk (by simp [kindsL]; omega)]
      simp only [Option.bind_some]
      rw [if_pos rfl] at ih
      exact ih
theorem n75_p {ns : List Int} (hx : ns.length < 1000000000) : n75 ns = some (mk (kindsL ns)) := by
  rw [n75_eq]
  exact l75_p hx ns [] rfl
theorem join_kinds : ∀ ns : List Int, Lib.join (ns.map tyL) [44] = kindsL ns
  | [] => rfl
  | [n] => by simp [kindsL, Lib.join_one]
  | n :: m :: r => by
    have h := join_kinds (m :: r)
    simp only [List.map_cons] at h ⊢
    rw [Lib.join_cons] at h ⊢
    simp only [kindsL, Lib.joinTail, List.map_cons, List.flatten_cons] at h ⊢
    rw [← h]; simp
theorem l126_p {ns : List Int} (hx : ns.length < 1000000000) : ∀ (post pre : List Int), ns = pre ++ post → l126_3 ns (pre.length : Int) (pre.map fun n => mk (tyL n)) = some (mk (kindsL ns))
  | [], pre, h => by
    rw [l126_3_eq, if_neg (by rw [h]; simp)]
    have hp : pre = ns := by rw [h]; simp
    have hk := kindsL_len ns
    have e : ((ns.map fun n => mk (tyL n)).map fun x : ByteArray => x.data.toList) = ns.map tyL := by
      rw [List.map_map]
      apply List.map_congr_left
      intro n _
      exact un_mk _
    have e2 : (ByteArray.mk #[44]).data.toList = [44] := rfl
    unfold lJoin
    rw [hp, e, e2, join_kinds, if_pos ⟨by rw [List.length_map]; omega, by omega⟩]
    rfl
  | y :: ys, pre, h => by
    have hl : pre.length < ns.length := by rw [h]; simp
    have hg : getI ns (pre.length : Int) = some y := by rw [h]; exact getI_at _ _ _
    have ih := l126_p hx ys (pre ++ [y]) (by rw [h]; simp)
    simp only [List.length_append, List.length_singleton, List.map_append, List.map_cons, List.map_nil] at ih
    rw [l126_3_eq, if_pos (by omega), hg, w1 (by omega)]
    simp only [Option.bind_some]
    rw [n127_p]
    simp only [Option.bind_some]
    rw [if_pos (capS (by rw [List.length_map]; omega)), ih]
theorem n126_p {ns : List Int} (hx : ns.length < 1000000000) : n126 ns = some (mk (kindsL ns)) := by
  rw [n126_eq]
  exact l126_p hx ns [] rfl
theorem ty_no {n : Int} {c : UInt8} (hc : isLow c = false) : c ∉ tyL n := fun h => by
  have := List.all_eq_true.1 (tyL_low n) c h
  rw [hc] at this; cases this
theorem kindsI_ne {l : Bs} (h : l ≠ []) : kindsI l = (splitG 44 [] l).map kindI := by unfold kindsI; rw [if_neg h]
theorem kindsL_ne {n : Int} (h : isTy n = true) : ∀ r : List Int, kindsL (n :: r) ≠ []
  | [] => fun e => by have e : tyL n = [] := e; rw [tyL_nil.1 e] at h; cases h
  | m :: r => fun e => by have e : tyL n ++ 44 :: kindsL (m :: r) = [] := e; simp at e
theorem kindsI_L : ∀ {ns : List Int}, ns.all isTy = true → kindsI (kindsL ns) = ns
  | [], _ => rfl
  | [n], h => by
    simp only [List.all_cons, List.all_nil, Bool.and_true] at h
    rw [kindsI_ne (kindsL_ne h [])]
    show (splitG 44 [] (tyL n)).map kindI = [n]
    rw [splitG_one [] (ty_no (by decide))]
    simp [kindI_ty h]
  | n :: m :: r, h => by
    rw [List.all_cons, Bool.and_eq_true] at h
    have ih := kindsI_L (ns := m :: r) h.2
    have hm : isTy m = true := by have := h.2; rw [List.all_cons, Bool.and_eq_true] at this; exact this.1
    rw [kindsI_ne (kindsL_ne hm r)] at ih
    rw [kindsI_ne (kindsL_ne h.1 _)]
    show (splitG 44 [] (tyL n ++ 44 :: kindsL (m :: r))).map kindI = _
    rw [splitG_cons [] _ (ty_no (by decide)), List.map_cons, List.nil_append, kindI_ty h.1, ih]
theorem kindsL_no {c : UInt8} (hc : isLow c = false) (h44 : c ≠ 44) : ∀ ns : List Int, c ∉ kindsL ns
  | [] => by simp [kindsL]
  | [n] => ty_no hc
  | n :: m :: r => by
    simp only [kindsL, List.mem_append, List.mem_cons, not_or]
    exact ⟨ty_no hc, h44, kindsL_no hc h44 (m :: r)⟩
end Go.Fs.Se
namespace Go.Fs.Se
open Go.Fs Go.Fs.Pl
def nLt (p q : ByteArray) : Bool := Op.bytesLess p.data.toList q.data.toList
theorem lt_tri : ∀ (l m : Bs), (!(Op.bytesLess l m || decide (l = m))) = Op.bytesLess m l
  | [], [] => by simp [Op.bytesLess]
  | [], y :: m => by simp [Op.bytesLess]
  | x :: l, [] => by simp [Op.bytesLess]
  | x :: l, y :: m => by
    have ih := lt_tri l m
    have hb : ∀ a b : UInt8, (a == b) = decide (a = b) := fun a b => by
      by_cases h : a = b
      · subst h; simp
      · rw [beq_eq_false_iff_ne.2 h]; simp [h]
    show (!((decide (x < y) || (x == y && Op.bytesLess l m)) || decide (x :: l = y :: m))) = (decide (y < x) || (y == x && Op.bytesLess m l))
    rw [hb, hb, ← ih]
    by_cases h1 : x.toNat < y.toNat
    · have hx : x < y := h1
      have hy : ¬ y < x := fun h => by have h : y.toNat < x.toNat := h; omega
      have hz : ¬ y = x := fun h => by rw [h] at h1; omega
      simp [hx, hy, hz]
    · have hx : ¬ x < y := h1
      by_cases h2 : x.toNat = y.toNat
      · have hxy : x = y := UInt8.toNat_inj.1 h2
        subst hxy
        simp [hx]
      · have hy : y < x := show y.toNat < x.toNat by omega
        have hz : ¬ x = y := fun h => h2 (by rw [h])
        simp [hx, hy, hz]
theorem nLt_tri (p q : ByteArray) : (!(nLt p q || decide (p = q))) = nLt q p := by
  have := lt_tri p.data.toList q.data.toList
  have e : (p.data.toList = q.data.toList) ↔ p = q := un_inj
  simp only [e] at this
  exact this
def sigOk (f : FaceSig) : Bool := lexName f.name && decide (f.args.length ≤ 4) && isTy f.type && f.args.all isTy
def okFrom : Option ByteArray → List FaceSig → Bool
  | _, [] => true
  | p, f :: fs => sigOk f && (match p with | none => true | some q => nLt q f.name) && okFrom (some f.name) fs
def faceOk (fs : List FaceSig) : Bool := decide (fs.length ≤ 8) && okFrom none fs
theorem okFrom_all : ∀ {fs : List FaceSig} {p : Option ByteArray}, okFrom p fs = true → ∀ f ∈ fs, sigOk f = true
  | [], _, _, f, hf => by cases hf
  | g :: fs, p, h, f, hf => by
    unfold okFrom at h
    simp only [Bool.and_eq_true] at h
    simp only [List.mem_cons] at hf
    rcases hf with rfl | hf
    · exact h.1.1
    · exact okFrom_all h.2 f hf

theorem n54_q (a : ByteArray) : n54 a = some (lexName a) := by
  by_cases h : a.size < 4611686018427387904
  · exact n54_p h
  · rw [n54_eq, if_pos (by omega), bindB_t, if_pos rfl]
    unfold lexName
    have : ¬ (1 ≤ a.size ∧ a.size ≤ 8) := by omega
    simp [this]
theorem l137_p {f : FaceSig} (hx : f.args.length < 1000000000) : ∀ (post pre : List Int), f.args = pre ++ post → l137_4 f (pre.length : Int) = some (post.all isTy)
  | [], pre, h => by rw [l137_4_eq, if_neg (by rw [h]; simp)]; rfl
  | y :: ys, pre, h => by
    have hl : pre.length < f.args.length := by rw [h]; simp
    have hg : getI f.args (pre.length : Int) = some y := by rw [h]; exact getI_at _ _ _
    have ih := l137_p hx ys (pre ++ [y]) (by rw [h]; simp)
    simp only [List.length_append, List.length_singleton] at ih
    rw [l137_4_eq, if_pos (by omega), hg, w1 (by omega)]
    simp only [Option.bind_some]
    rw [n76_p]
    simp only [Option.bind_some, mk_ne, tyL_nil]
    rw [ih, List.all_cons]
    cases isTy y <;> simp
theorem n137_p (f : FaceSig) : n137 f = some (sigOk f) := by
  rw [n137_eq, n54_q]
  simp only [Option.bind_some]
  rw [n76_p]
  simp only [Option.bind_some, mk_ne, tyL_nil]
  unfold sigOk
  cases lexName f.name with
  | false => simp [bindB_t]
  | true =>
    by_cases h : f.args.length ≤ 4
    · have := l137_p (f := f) (by omega) f.args [] rfl
      have e0 : (([] : List Int).length : Int) = 0 := rfl
      rw [e0] at this
      rw [if_neg (by simp; omega), bindB_t, this]
      cases isTy f.type <;> simp [h]
    · rw [if_pos (by right; omega), bindB_t]
      simp [h]
theorem prevAt {fs pre post : List FaceSig} {x q : FaceSig} (h : fs = pre ++ x :: post) (hq : pre.getLast? = some q) (hs : pre.length < 4611686018427387904) : getI fs (IntKind.i64.wrap ((pre.length : Int) - 1)) = some q := by
  obtain ⟨ys, rfl⟩ := List.getLast?_eq_some_iff.1 hq
  have : (((ys ++ [q]).length : Nat) : Int) - 1 = (ys.length : Int) := by simp
  simp only [List.length_append, List.length_singleton] at hs
  rw [this, wrap64 (by omega) (by omega), h]
  have := getI_at ys (x :: post) q
  simpa using this
theorem l99_p {fs : List FaceSig} (hx : fs.length < 1000000000) : ∀ (post pre : List FaceSig), fs = pre ++ post → l99_4 fs (pre.length : Int) = some (okFrom (pre.getLast?.map (·.name)) post)
  | [], pre, h => by rw [l99_4_eq, if_neg (by rw [h]; simp)]; rfl
  | f :: ys, pre, h => by
    have hl : pre.length < fs.length := by rw [h]; simp
    have hg : getI fs (pre.length : Int) = some f := by rw [h]; exact getI_at _ _ _
    have ih := l99_p hx ys (pre ++ [f]) (by rw [h]; simp)
    simp only [List.length_append, List.length_singleton, List.getLast?_append, List.getLast?_singleton, Option.some_or, Option.map_some] at ih
    rw [l99_4_eq, if_pos (by omega), hg, w1 (by omega), ih]
    simp only [Option.bind_some]
    rw [n137_p]
    simp only [Option.bind_some, okFrom]
    cases sigOk f with
    | false => simp [bindB_t]
    | true =>
      rw [if_neg (by simp)]
      cases hp : pre.getLast? with
      | none =>
        have hp := List.getLast?_eq_none_iff.1 hp
        subst hp
        rw [if_neg (by simp), bindB_t]
        simp
      | some q =>
        have h0 : 0 < pre.length := by
          cases pre with
          | nil => cases hp
          | cons => simp
        rw [if_pos (by omega), prevAt h hp (by omega)]
        simp only [Option.bind_some, bindB_t, Option.map_some, Bool.true_and]
        have ht := nLt_tri f.name q.name
        unfold nLt at ht ⊢
        rw [← ht]
        cases Op.bytesLess f.name.data.toList q.name.data.toList || decide (f.name = q.name) <;> simp
theorem n99_p (fs : List FaceSig) : n99 fs = some (faceOk fs) := by
  rw [n99_eq]
  unfold faceOk
  by_cases h : fs.length ≤ 8
  · have := l99_p (fs := fs) (by omega) fs [] rfl
    have e0 : (([] : List FaceSig).length : Int) = 0 := rfl
    rw [e0] at this
    rw [if_neg (by omega), this]
    simp [h]
  · rw [if_pos (by omega)]; simp [h]

theorem l132_p {ns : List Int} (hx : ns.length < 1000000000) : ∀ (post pre : List Int), ns = pre ++ post → ∃ v, l132_164_2 ns (pre.length : Int) = some v ∧ decide (0 ≤ v) = !post.all isTy
  | [], pre, h => ⟨-1, by rw [l132_164_2_eq, if_neg (by rw [h]; simp)], rfl⟩
  | y :: ys, pre, h => by
    have hl : pre.length < ns.length := by rw [h]; simp
    have hg : getI ns (pre.length : Int) = some y := by rw [h]; exact getI_at _ _ _
    rw [l132_164_2_eq, if_pos (by omega), hg, w1 (by omega)]
    simp only [Option.bind_some]
    rw [n164_p]
    simp only [Option.bind_some]
    cases e : isTy y with
    | false => exact ⟨_, rfl, by simp [e]⟩
    | true =>
      obtain ⟨v, h1, h2⟩ := l132_p hx ys (pre ++ [y]) (by rw [h]; simp)
      simp only [List.length_append, List.length_singleton] at h1
      exact ⟨v, by simpa using h1, by rw [h2]; simp [e]⟩
theorem n128_p (ns : List Int) : n128 ns = some (decide (ns.length ≤ 4) && ns.all isTy) := by
  rw [n128_eq]
  by_cases h : ns.length ≤ 4
  · rw [if_pos (by omega), n92_164_eq, n132_164_eq]
    obtain ⟨v, h1, h2⟩ := l132_p (ns := ns) (by omega) ns [] rfl
    have e0 : (([] : List Int).length : Int) = 0 := rfl
    rw [e0] at h1
    rw [h1]
    simp only [Option.bind_some]
    rw [h2]
    simp [h]
  · rw [if_neg (by omega)]; simp [h]
theorem sig_alt (f : FaceSig) : sigOk f = (lexName f.name && ((decide (f.args.length ≤ 4) && f.args.all isTy) && isTy f.type)) := by
  unfold sigOk
  cases lexName f.name <;> cases isTy f.type <;> simp
theorem l141_p {fs : List FaceSig} (hx : fs.length < 1000000000) (hn : ∀ f ∈ fs, f.name.size < 4611686018427387904) : ∀ (post pre : List FaceSig), fs = pre ++ post → l141_2 fs (pre.length : Int) = some (okFrom (pre.getLast?.map (·.name)) post && decide (fs.length ≤ 8))
  | [], pre, h => by
    rw [l141_2_eq, if_neg (by rw [h]; simp)]
    simp only [okFrom, Bool.true_and]
    congr 1
    by_cases e : fs.length ≤ 8
    · simp [e]; omega
    · simp [e]; omega
  | f :: ys, pre, h => by
    have hl : pre.length < fs.length := by rw [h]; simp
    have hg : getI fs (pre.length : Int) = some f := by rw [h]; exact getI_at _ _ _
    have ih := l141_p hx hn ys (pre ++ [f]) (by rw [h]; simp)
    simp only [List.length_append, List.length_singleton, List.getLast?_append, List.getLast?_singleton, Option.some_or, Option.map_some] at ih
    rw [l141_2_eq, if_pos (by omega), hg, w1 (by omega), ih]
    simp only [Option.bind_some]
    rw [n62_p (hn f (by rw [h]; simp)), n128_p, n129_p]
    simp only [Option.bind_some, okFrom]
    rw [sig_alt]
    cases lexName f.name with
    | false => simp [bindB_t]
    | true =>
      rw [if_neg (by simp)]
      cases hp : pre.getLast? with
      | none =>
        have hp := List.getLast?_eq_none_iff.1 hp
        subst hp
        rw [if_neg (by simp)]
        cases decide (f.args.length ≤ 4) && f.args.all isTy <;> cases isTy f.type <;> simp [bindB_t]
      | some q =>
        have h0 : 0 < pre.length := by
          cases pre with
          | nil => cases hp
          | cons => simp
        rw [if_pos (by omega), prevAt h hp (by omega)]
        simp only [Option.bind_some, Option.map_some, Bool.true_and]
        unfold nLt
        cases Op.bytesLess q.name.data.toList f.name.data.toList <;> cases decide (f.args.length ≤ 4) && f.args.all isTy <;> cases isTy f.type <;> simp [bindB_t]
theorem n141_p {fs : List FaceSig} (hx : fs.length < 1000000000) (hn : ∀ f ∈ fs, f.name.size < 4611686018427387904) : n141 fs = some (faceOk fs) := by
  rw [n141_eq]
  have := l141_p hx hn fs [] rfl
  have e0 : (([] : List FaceSig).length : Int) = 0 := rfl
  rw [e0] at this
  rw [this]
  unfold faceOk
  rw [Bool.and_comm]; rfl

def lineL (f : FaceSig) : Bs := un f.name ++ 40 :: (kindsL f.args ++ 41 :: tyL f.type)
def faceL (fs : List FaceSig) : Bs := fs.flatMap fun f => lineL f ++ [10]
theorem sigOk_d {f : FaceSig} (h : sigOk f = true) : lexName f.name = true ∧ f.args.length ≤ 4 ∧ isTy f.type = true ∧ f.args.all isTy = true := by
  unfold sigOk at h
  simp only [Bool.and_eq_true, decide_eq_true_eq] at h
  exact ⟨h.1.1.1, h.1.1.2, h.1.2, h.2⟩
theorem lexName_d {a : ByteArray} (h : lexName a = true) : (1 ≤ (un a).length ∧ (un a).length ≤ 8) ∧ ∀ c ∈ un a, isLow c = true := by
  unfold lexName at h
  simp only [Bool.and_eq_true, decide_eq_true_eq] at h
  exact ⟨by rw [un_len]; exact h.1.1, List.all_eq_true.1 h.2⟩
theorem name_no {a : ByteArray} (h : lexName a = true) {c : UInt8} (hc : isLow c = false) : c ∉ un a := fun hm => by
  have := (lexName_d h).2 c hm
  rw [hc] at this; cases this
theorem lineL_len {f : FaceSig} (h : sigOk f = true) : (lineL f).length ≤ 34 := by
  obtain ⟨h1, h2, h3, h4⟩ := sigOk_d h
  have h1 := (lexName_d h1).1
  have h5 := kindsL_len f.args
  have h6 := tyL_len f.type
  simp only [lineL, List.length_append, List.length_cons]
  omega
theorem faceL_len : ∀ {fs : List FaceSig}, (∀ f ∈ fs, sigOk f = true) → (faceL fs).length ≤ 35 * fs.length
  | [], _ => by simp [faceL]
  | f :: fs, h => by
    have h1 := lineL_len (h f (by simp))
    have h2 := faceL_len (fs := fs) fun g hg => h g (by simp [hg])
    simp only [faceL, List.flatMap_cons, List.length_append, List.length_cons, List.length_nil] at h2 ⊢
    omega
theorem faceL_snoc (fs : List FaceSig) (f : FaceSig) : faceL (fs ++ [f]) = faceL fs ++ (lineL f ++ [10]) := by simp [faceL]
theorem faceOk_d {fs : List FaceSig} (h : faceOk fs = true) : fs.length ≤ 8 ∧ ∀ f ∈ fs, sigOk f = true := by
  unfold faceOk at h
  simp only [Bool.and_eq_true, decide_eq_true_eq] at h
  exact ⟨h.1, okFrom_all h.2⟩
theorem e40 : ByteArray.mk #[40] = mk [40] := rfl
theorem e41 : ByteArray.mk #[41] = mk [41] := rfl
theorem e10 : ByteArray.mk #[10] = mk [10] := rfl
theorem e32 : ByteArray.mk #[32] = mk [32] := rfl
theorem l100_p {fs : List FaceSig} (hx : fs.length ≤ 8) (ho : ∀ f ∈ fs, sigOk f = true) : ∀ (post pre : List FaceSig), fs = pre ++ post → l100_5 fs (mk (faceL pre)) (pre.length : Int) = some (mk (faceL fs))
  | [], pre, h => by rw [l100_5_eq, if_neg (by rw [h]; simp)]; simp [h]
  | f :: ys, pre, h => by
    have hl : pre.length < fs.length := by rw [h]; simp
    have hg : getI fs (pre.length : Int) = some f := by rw [h]; exact getI_at _ _ _
    have ih := l100_p hx ho ys (pre ++ [f]) (by rw [h]; simp)
    simp only [List.length_append, List.length_singleton] at ih
    have hf := lineL_len (ho f (by rw [h]; simp))
    have hp := faceL_len (fs := pre) fun g hg => ho g (by rw [h]; simp [hg])
    obtain ⟨q1, q2, q3, q4⟩ := sigOk_d (ho f (by rw [h]; simp))
    simp only [lineL, List.length_append, List.length_cons] at hf
    rw [l100_5_eq, if_pos (by omega), hg, w1 (by omega)]
    simp only [Option.bind_some]
    rw [n75_p (by omega), n76_p]
    simp only [Option.bind_some]
    rw [← mk_un f.name, e40, e41, e10, cat_mk (by omega)]
    simp only [Option.bind_some]
    rw [cat_mk (by simp; omega)]
    simp only [Option.bind_some]
    rw [cat_mk (by simp; omega)]
    simp only [Option.bind_some]
    rw [cat_mk (by simp; omega)]
    simp only [Option.bind_some]
    rw [cat_mk (by simp; omega)]
    simp only [Option.bind_some]
    rw [cat_mk (by simp; omega)]
    simp only [Option.bind_some]
    rw [faceL_snoc] at ih
    rw [← ih]
    simp [lineL]
theorem n100_p (fs : List FaceSig) : n100 fs = some (if faceOk fs = true then mk (faceL fs) else mk []) := by
  rw [n100_eq, n99_p]
  simp only [Option.bind_some]
  cases e : faceOk fs with
  | false => simp; rfl
  | true =>
    obtain ⟨h1, h2⟩ := faceOk_d e
    exact l100_p h1 h2 fs [] rfl
theorem l142_p {fs : List FaceSig} (hx : fs.length ≤ 8) (ho : ∀ f ∈ fs, sigOk f = true) : ∀ (post pre : List FaceSig), fs = pre ++ post → l142_5 fs (pre.length : Int) (mk (faceL pre)) = some (mk (faceL fs))
  | [], pre, h => by rw [l142_5_eq, if_neg (by rw [h]; simp)]; simp [h]
  | f :: ys, pre, h => by
    have hl : pre.length < fs.length := by rw [h]; simp
    have hg : getI fs (pre.length : Int) = some f := by rw [h]; exact getI_at _ _ _
    have ih := l142_p hx ho ys (pre ++ [f]) (by rw [h]; simp)
    simp only [List.length_append, List.length_singleton] at ih
    have hf := lineL_len (ho f (by rw [h]; simp))
    have hp := faceL_len (fs := pre) fun g hg => ho g (by rw [h]; simp [hg])
    obtain ⟨q1, q2, q3, q4⟩ := sigOk_d (ho f (by rw [h]; simp))
    simp only [lineL, List.length_append, List.length_cons] at hf
    rw [l142_5_eq, if_pos (by omega), hg, w1 (by omega)]
    simp only [Option.bind_some]
    rw [n126_p (by omega), n127_p]
    simp only [Option.bind_some]
    rw [← mk_un f.name, e40, e41, e10, cat_mk (by simp; omega)]
    simp only [Option.bind_some]
    rw [cat_mk (by simp; omega)]
    simp only [Option.bind_some]
    rw [cat_mk (by simp; omega)]
    simp only [Option.bind_some]
    rw [cat_mk (by simp; omega)]
    simp only [Option.bind_some]
    rw [cat_mk (by simp; omega)]
    simp only [Option.bind_some]
    rw [if_pos (by rw [mk_size, mk_size]; simp; omega), mk_append]
    rw [faceL_snoc] at ih
    rw [← ih]
    simp [lineL]
theorem n142_p {fs : List FaceSig} (hx : fs.length < 1000000000) (hn : ∀ f ∈ fs, f.name.size < 4611686018427387904) : n142 fs = some (if faceOk fs = true then mk (faceL fs) else mk []) := by
  rw [n142_eq, n141_p hx hn]
  simp only [Option.bind_some]
  cases e : faceOk fs with
  | false => simp; rfl
  | true =>
    obtain ⟨h1, h2⟩ := faceOk_d e
    exact l142_p h1 h2 fs [] rfl
end Go.Fs.Se
namespace Go.Fs.Se
open Go.Fs Go.Fs.Pl
def noSig : FaceSig := FaceSig.mk (mk []) [] 0
def sigS (w : Bs) : FaceSig := match idx 40 w with
  | none => noSig
  | some i => match idx 41 w with
    | none => noSig
    | some j => if j < i then noSig else FaceSig.mk (mk (w.take i)) (kindsI ((w.take j).drop (i + 1))) (kindI (w.drop (j + 1)))
theorem idx_lt {c : UInt8} {w : Bs} {i : Nat} (h : idx c w = some i) : i < w.length := by
  obtain ⟨a, b, rfl, rfl, _⟩ := idx_split h
  simp
theorem idx_ne {c d : UInt8} (hcd : c ≠ d) {w : Bs} {i j : Nat} (h : idx c w = some i) (h2 : idx d w = some j) : i ≠ j := by
  obtain ⟨a, b, e1, e2, _⟩ := idx_split h
  obtain ⟨a', b', e3, e4, _⟩ := idx_split h2
  intro e
  rw [e1] at e3
  have := (List.append_inj e3 (by omega)).2
  injection this with h5 _
  exact hcd h5
theorem n98_p {w : Bs} (hw : w.length < 4294967281) : n98 (mk w) = some (sigS w) := by
  have h40 := n70_p (a := w) (by omega) 40
  have h41 := n70_p (a := w) (by omega) 41
  have e40 : U8.mk (((40 : UInt8).toNat : Nat) : Int) = U8.mk 40 := rfl
  have e41 : U8.mk (((41 : UInt8).toNat : Nat) : Int) = U8.mk 41 := rfl
  rw [e40] at h40
  rw [e41] at h41
  rw [n98_eq, h40, h41]
  simp only [Option.bind_some]
  unfold sigS
  cases hi : idx 40 w with
  | none => rw [if_pos (.inl (by simp))]; rfl
  | some i =>
    cases hj : idx 41 w with
    | none => rw [if_pos (.inr (by simp; omega))]; rfl
    | some j =>
      simp only
      have hi' := idx_lt hi
      have hj' := idx_lt hj
      have hij := idx_ne (by decide) hi hj
      by_cases h : j < i
      · rw [if_pos (.inr (by omega)), if_pos h]; rfl
      · have e1 : ((i : Int)).toNat = i := by omega
        have e2 : ((j : Int)).toNat = j := by omega
        have e3 : ((i + 1 : Nat) : Int).toNat = i + 1 := by omega
        have e4 : ((j + 1 : Nat) : Int).toNat = j + 1 := by omega
        rw [if_neg (by omega), if_neg h, if_pos (by omega), w1 (by omega), w1 (by omega), e1, e2, e3, e4, mk_size, if_pos (by omega), if_pos (by omega), if_pos (by omega), if_pos (by omega)]
        rw [mk_extract, mk_extract, mk_extract, n72_p (by rw [List.length_drop, List.length_take]; omega)]
        simp only [Option.bind_some]
        rw [if_pos (by omega), if_pos (by omega), n71_p]
        simp
theorem line_idx {f : FaceSig} (h : sigOk f = true) : idx 40 (lineL f) = some (un f.name).length ∧ idx 41 (lineL f) = some ((un f.name).length + 1 + (kindsL f.args).length) := by
  obtain ⟨h1, h2, h3, h4⟩ := sigOk_d h
  refine ⟨idx_at _ (name_no h1 (by decide)), ?_⟩
  have e : lineL f = (un f.name ++ 40 :: kindsL f.args) ++ 41 :: tyL f.type := by simp [lineL]
  rw [e, idx_at]
  · simp; omega
  · simp only [List.mem_append, List.mem_cons, not_or]
    exact ⟨name_no h1 (by decide), by decide, kindsL_no (by decide) (by decide) _⟩
theorem sigS_line {f : FaceSig} (h : sigOk f = true) : sigS (lineL f) = f := by
  obtain ⟨h1, h2, h3, h4⟩ := sigOk_d h
  obtain ⟨i1, i2⟩ := line_idx h
  have e : lineL f = (un f.name ++ 40 :: kindsL f.args) ++ 41 :: tyL f.type := by simp [lineL]
  unfold sigS
  rw [i1]
  simp only
  rw [i2]
  simp only
  rw [if_neg (by omega)]
  have e1 : (lineL f).take (un f.name).length = un f.name := by unfold lineL; rw [List.take_left]
  have hl : (un f.name).length + 1 + (kindsL f.args).length = (un f.name ++ 40 :: kindsL f.args).length := by simp; omega
  have e2 : (lineL f).take ((un f.name).length + 1 + (kindsL f.args).length) = un f.name ++ 40 :: kindsL f.args := by rw [hl, e, List.take_left]
  have e3 : (lineL f).drop ((un f.name).length + 1 + (kindsL f.args).length + 1) = tyL f.type := by
    rw [hl, e, ← List.drop_drop, List.drop_left]; rfl
  have e4 : (un f.name ++ 40 :: kindsL f.args).drop ((un f.name).length + 1) = kindsL f.args := by
    rw [← List.drop_drop, List.drop_left]; rfl
  rw [e1, e2, e3, e4, kindsI_L h4, kindI_ty h3, mk_un]
/-- As the program reads a line. -/
def cutA (c : UInt8) (l : Bs) : Bs := match idx c l with | some i => l.take i | none => l
def cutZ (c : UInt8) (l : Bs) : Bs := match idx c l with | some i => l.drop (i + 1) | none => []
theorem lCut_q (c : UInt8) {l : Bs} (h : l.length < 4294967281) : lCut (mk l) (mk [c]) = some ⟨mk (cutA c l), mk (cutZ c l), (idx c l).isSome⟩ := by
  rw [lCut_mk c h]
  unfold cutA cutZ
  cases idx c l <;> rfl
theorem cutA_len (c : UInt8) (l : Bs) : (cutA c l).length ≤ l.length := by
  unfold cutA
  split
  · simp; omega
  · exact Nat.le_refl _
theorem cutZ_len (c : UInt8) (l : Bs) : (cutZ c l).length ≤ l.length := by
  unfold cutZ
  split
  · simp
  · simp
theorem cut_at {c : UInt8} {a : Bs} (b : Bs) (h : c ∉ a) : cutA c (a ++ c :: b) = a ∧ cutZ c (a ++ c :: b) = b := by
  unfold cutA cutZ
  rw [idx_at b h]
  simp
def sigP (w : Bs) : FaceSig := FaceSig.mk (mk (cutA 40 w)) (kindsI (cutA 41 (cutZ 40 w))) (kindI (cutZ 41 (cutZ 40 w)))
theorem sigP_line {f : FaceSig} (h : sigOk f = true) : sigP (lineL f) = f := by
  obtain ⟨h1, h2, h3, h4⟩ := sigOk_d h
  unfold sigP lineL
  obtain ⟨a1, a2⟩ := cut_at (c := 40) (kindsL f.args ++ 41 :: tyL f.type) (name_no h1 (c := 40) (by decide))
  obtain ⟨b1, b2⟩ := cut_at (c := 41) (tyL f.type) (kindsL_no (c := 41) (by decide) (by decide) f.args)
  rw [a1, a2, b1, b2, kindsI_L h4, kindI_ty h3, mk_un]
theorem lineL_no {f : FaceSig} (h : sigOk f = true) : (10 : UInt8) ∉ lineL f := by
  obtain ⟨h1, h2, h3, h4⟩ := sigOk_d h
  simp only [lineL, List.mem_append, List.mem_cons, not_or]
  exact ⟨name_no h1 (by decide), by decide, kindsL_no (by decide) (by decide) _, by decide, ty_no (by decide)⟩
theorem split_face {fs : List FaceSig} (h : ∀ f ∈ fs, sigOk f = true) : splitG 10 [] (faceL fs) = fs.map lineL ++ [[]] := by
  have e : faceL fs = (fs.map lineL).flatMap (· ++ [10]) := by unfold faceL; rw [List.flatMap_map]
  rw [e, splitG_ends]
  intro w hw
  obtain ⟨f, hf, rfl⟩ := List.mem_map.1 hw
  exact lineL_no (h f hf)

/-- A text that tells signatures. -/
def FaceText (a : ByteArray) : Prop := ∃ fs, faceOk fs = true ∧ a = mk (faceL fs)
theorem FaceText.size {a : ByteArray} (h : FaceText a) : a.size ≤ 280 := by
  obtain ⟨fs, h1, rfl⟩ := h
  obtain ⟨h2, h3⟩ := faceOk_d h1
  have := faceL_len h3
  rw [mk_size]; omega

theorem cap48 {n : Nat} (h : n < 1000000000) : (n + 1) * 48 ≤ 140737488355328 ∧ n ≤ 140737488355327 := by omega
theorem l55_p {a : ByteArray} {xs : List Bs} (hx : xs.length < 1000000000) (hw : ∀ w ∈ xs, w.length < 4294967281) (z : Bs) : ∀ (post pre : List Bs) (r0 : List FaceSig), xs = pre ++ post → r0.length ≤ pre.length →
    l55_6 a ((xs ++ [z]).map mk) (pre.length : Int) r0 = bindB (if faceOk (r0 ++ post.map sigS) = false then some true else (n100 (r0 ++ post.map sigS)).bind fun y3 => some !decide (y3 = a)) fun y4 => if y4 = true then some ([], false) else some (r0 ++ post.map sigS, true)
  | [], pre, r0, h, hr => by
    have hp : pre = xs := by rw [h]; simp
    rw [l55_6_eq, w1 (by rw [hp]; omega), if_neg (by rw [hp]; simp), n99_p]
    simp
  | y :: ys, pre, r0, h, hr => by
    have hl : pre.length < xs.length := by rw [h]; simp
    have hg : getI ((xs ++ [z]).map mk) (pre.length : Int) = some (mk y) := by
      rw [h]
      have := getI_at (pre.map mk) ((ys ++ [z]).map mk) (mk y)
      rw [List.length_map] at this
      simpa using this
    have ih := l55_p (a := a) hx hw z ys (pre ++ [y]) (r0 ++ [sigS y]) (by rw [h]; simp) (by simp; omega)
    rw [l55_6_eq, w1 (by omega), if_pos (by simp; omega), hg]
    simp only [Option.bind_some]
    rw [n98_p (hw y (by rw [h]; simp))]
    simp only [Option.bind_some]
    rw [if_pos (cap48 (by omega))]
    simp only [List.length_append, List.length_singleton] at ih
    rw [ih]
    simp
theorem split_last (c : UInt8) (l : Bs) : ∃ ws z, splitG c [] l = ws ++ [z] := by
  have := splitG_ne c l []
  exact ⟨(splitG c [] l).dropLast, (splitG c [] l).getLast this, (List.dropLast_concat_getLast this).symm⟩
theorem splitG_mem (c : UInt8) : ∀ (l cur : Bs), ∀ w ∈ splitG c cur l, w.length ≤ cur.length + l.length
  | [], cur, w, hw => by simp only [splitG, List.mem_singleton] at hw; rw [hw]; simp
  | x :: xs, cur, w, hw => by
    unfold splitG at hw
    split at hw
    · simp only [List.mem_cons] at hw
      rcases hw with rfl | hw
      · simp
      · have := splitG_mem c xs [] w hw; simp at this ⊢; omega
    · have := splitG_mem c xs (cur ++ [x]) w hw; simp at this ⊢; omega
theorem n55_p (a : ByteArray) : ∃ r, n55 a = some r ∧ (r.2 = true ↔ FaceText a) := by
  rw [n55_eq]
  by_cases h : (400 : Int) < (a.size : Int)
  · rw [if_pos h]
    exact ⟨_, rfl, by simp; intro hf; have := hf.size; omega⟩
  · rw [if_neg h]
    have hl := un_len a
    have h37 := n37_p (a := un a) (by omega) 10
    have e : U8.mk (((10 : UInt8).toNat : Nat) : Int) = U8.mk 10 := rfl
    rw [e, mk_un] at h37
    rw [h37]
    simp only [Option.bind_some]
    obtain ⟨ws, z, hs⟩ := split_last 10 (un a)
    have hs1 := splitG_len 10 (un a) []
    have hs2 := splitG_mem 10 (un a) []
    rw [hs] at hs1 hs2 ⊢
    simp only [List.length_append, List.length_singleton] at hs1
    have := l55_p (a := a) (xs := ws) (by omega) (fun w hw => by have := hs2 w (by simp [hw]); simp at this; omega) z ws [] [] rfl (by simp)
    have e0 : (([] : List Bs).length : Int) = 0 := rfl
    rw [e0, List.nil_append] at this
    rw [this, n100_p]
    cases ho : faceOk (ws.map sigS) with
    | false =>
      refine ⟨_, rfl, ?_⟩
      simp only [Bool.false_eq_true, false_iff]
      rintro ⟨fs, h1, h2⟩
      have h3 := (faceOk_d h1).2
      have h4 := split_face h3
      rw [h2, un_mk, h4] at hs
      have hw : ws = fs.map lineL := (List.append_inj' hs rfl).1.symm
      rw [hw, List.map_map] at ho
      have hm : fs.map (sigS ∘ lineL) = fs := by
        conv => rhs; rw [← List.map_id fs]
        exact List.map_congr_left fun f hf => sigS_line (h3 f hf)
      rw [hm, h1] at ho; cases ho
    | true =>
      simp only [if_neg (show ¬ (true = false) by decide), if_true, Option.bind_some, bindB_t]
      by_cases he : mk (faceL (ws.map sigS)) = a
      · refine ⟨(ws.map sigS, true), by simp [he], by simp; exact ⟨_, ho, he.symm⟩⟩
      · refine ⟨([], false), by simp [he], ?_⟩
        simp only [Bool.false_eq_true, false_iff]
        rintro ⟨fs, h1, h2⟩
        have h3 := (faceOk_d h1).2
        have h4 := split_face h3
        rw [h2, un_mk, h4] at hs
        have hw : ws = fs.map lineL := (List.append_inj' hs rfl).1.symm
        rw [hw, List.map_map] at he
        have hm : fs.map (sigS ∘ lineL) = fs := by
          conv => rhs; rw [← List.map_id fs]
          exact List.map_congr_left fun f hf => sigS_line (h3 f hf)
        rw [hm] at he
        exact he h2.symm

theorem n122_p {a : Bs} (ha : a.length < 4611686018427387904) (c : UInt8) : n122 (mk a) (mk [c]) = some (mk (if a.getLast? = some c then a.dropLast else a)) := by
  rw [n122_eq, n153_eq, mk_size, mk_size]
  rcases List.eq_nil_or_concat a with rfl | ⟨b, x, rfl⟩
  · rw [if_neg (by simp)]
    simp
  · rw [List.concat_eq_append] at ha ⊢
    have hl : (b ++ [x]).length = b.length + 1 := by simp
    have e1 : IntKind.i64.wrap (((b ++ [x]).length : Int) - (([c].length : Nat) : Int)) = (b.length : Int) := by rw [hl, wrap64 (by simp only [List.length_singleton]; omega) (by simp only [List.length_singleton]; omega)]; simp
    simp only [e1]
    rw [if_pos (by rw [hl]; simp; omega), if_pos (by omega), if_pos (by rw [hl]; omega)]
    have e2 : ((b.length : Int)).toNat = b.length := by omega
    rw [e2, mk_extract, mk_extract]
    simp only [Option.bind_some]
    have e3 : ((b ++ [x]).take (b ++ [x]).length).drop b.length = [x] := by rw [List.take_length, List.drop_left]
    have e4 : ((b ++ [x]).take b.length).drop 0 = b := by rw [List.take_left]; rfl
    rw [e3, e4]
    have e5 : (mk [x] = mk [c]) ↔ x = c := by rw [mk_inj]; simp
    by_cases h : x = c
    · rw [if_pos (by simp [e5, h]), if_pos (by omega), if_pos (by rw [hl]; omega), if_pos (by simp [h])]
      simp
    · rw [if_neg (by simp [e5, h]), if_neg (by simp [h])]
theorem n80_p {a : Bs} (ha : a.length < 4611686018427387904) (c : UInt8) : n80 (mk a) (mk [c]) = some (mk (if a.getLast? = some c then a.dropLast else a)) := by rw [n80_eq]; exact n122_p ha c
theorem l107_p {a : ByteArray} {xs : List Bs} (hx : xs.length < 1000000000) (hw : ∀ w ∈ xs, w.length < 4294967281) : ∀ (post pre : List Bs) (r0 : List FaceSig), xs = pre ++ post → r0.length ≤ pre.length →
    l107_3 a (xs.map mk) (xs.length : Int) (pre.length : Int) r0 =
      (n141 (r0 ++ if a = ByteArray.mk #[] then [] else post.map sigP)).bind fun y5 => bindB (if y5 = false then some true else (n142 (r0 ++ if a = ByteArray.mk #[] then [] else post.map sigP)).bind fun y6 => some !decide (y6 = a)) fun y7 => if y7 = true then some ([], false) else some ((r0 ++ if a = ByteArray.mk #[] then [] else post.map sigP), true)
  | [], pre, r0, h, hr => by
    have hp : pre = xs := by rw [h]; simp
    rw [l107_3_eq, if_neg (by rw [hp]; omega)]
    simp
  | y :: ys, pre, r0, h, hr => by
    have hl : pre.length < xs.length := by rw [h]; simp
    have hy := hw y (by rw [h]; simp)
    have hg : getI (xs.map mk) (pre.length : Int) = some (mk y) := by
      rw [h]
      have := getI_at (pre.map mk) (ys.map mk) (mk y)
      rw [List.length_map] at this
      simpa using this
    have hz := cutZ_len 40 y
    have hz2 := cutA_len 41 (cutZ 40 y)
    rw [l107_3_eq, w1 (by omega), if_pos (by omega), hg]
    simp only [Option.bind_some]
    rw [e40, lCut_q 40 hy]
    simp only [Option.bind_some]
    rw [e41, lCut_q 41 (by omega)]
    simp only [Option.bind_some]
    by_cases h0 : a = ByteArray.mk #[]
    · have ih := l107_p (a := a) hx hw ys (pre ++ [y]) r0 (by rw [h]; simp) (by simp; omega)
      simp only [List.length_append, List.length_singleton] at ih
      rw [if_neg (by simp [h0]), ih, if_pos h0, if_pos h0]
    · have ih := l107_p (a := a) hx hw ys (pre ++ [y]) (r0 ++ [sigP y]) (by rw [h]; simp) (by simp; omega)
      simp only [List.length_append, List.length_singleton] at ih
      rw [if_pos (by simp [h0]), n83_p (by omega)]
      simp only [Option.bind_some]
      rw [n84_p]
      simp only [Option.bind_some]
      rw [if_pos (cap48 (by omega))]
      unfold sigP at ih ⊢
      rw [ih, if_neg h0, if_neg h0]
      simp
theorem n107_p {a : ByteArray} (ha : a.size < 100000000) : ∃ r, n107 a = some r ∧ (r.2 = true ↔ FaceText a) := by
  have hl := un_len a
  rw [n107_eq, e10]
  have h80 := n80_p (a := un a) (by omega) 10
  rw [mk_un] at h80
  rw [h80]
  simp only [Option.bind_some]
  generalize hb : (if (un a).getLast? = some 10 then (un a).dropLast else un a) = b
  have hbl : b.length ≤ a.size := by
    rw [← hb]
    split
    · rw [List.length_dropLast]; omega
    · omega
  rw [lSplit_mk 10 (by omega)]
  simp only [Option.bind_some, List.length_map]
  have hs1 := splitG_len 10 b []
  have hs2 := splitG_mem 10 b []
  generalize hxs : splitG 10 [] b = xs at hs1 hs2
  have hw : ∀ w ∈ xs, w.length < 4294967281 := fun w hw => by have := hs2 w hw; simp at this; omega
  have := l107_p (a := a) (by omega) hw xs [] [] rfl (by simp)
  have e0 : (([] : List Bs).length : Int) = 0 := rfl
  rw [e0, List.nil_append] at this
  rw [this]
  -- what is read of a text that tells signatures
  have key : ∀ fs, faceOk fs = true → a = mk (faceL fs) → (if a = ByteArray.mk #[] then [] else xs.map sigP) = fs := by
    intro fs h1 h2
    have h3 := (faceOk_d h1).2
    cases fs with
    | nil => rw [if_pos (by rw [h2]; rfl)]
    | cons f fs =>
      have hne : faceL (f :: fs) ≠ [] := by
        intro e
        have := congrArg List.length e
        simp [faceL, lineL] at this
      rw [if_neg (by rw [h2, mk_ne]; exact hne)]
      have hsp := split_face h3
      have hb2 : b ++ [10] = faceL (f :: fs) := by
        have hlast : (faceL (f :: fs)).getLast? = some 10 := by
          unfold faceL
          rcases List.eq_nil_or_concat (f :: fs) with h | ⟨l, g, h⟩
          · cases h
          · rw [h, List.concat_eq_append]
            simp [List.flatMap_append]
        rw [← hb, h2, un_mk, if_pos hlast]
        obtain ⟨ys, hys⟩ := List.getLast?_eq_some_iff.1 hlast
        rw [hys]; simp
      have hbx : splitG 10 [] (b ++ [10]) = xs ++ [[]] := by
        rw [← hxs]
        have : ∀ (l cur : Bs), splitG 10 cur (l ++ [10]) = splitG 10 cur l ++ [[]] := by
          intro l
          induction l with
          | nil => intro cur; simp [splitG]
          | cons y l ih => intro cur; simp only [List.cons_append, splitG]; split <;> simp [ih]
        exact this b []
      rw [hb2, hsp] at hbx
      have hxe : xs = (f :: fs).map lineL := (List.append_inj' hbx rfl).1.symm
      rw [hxe, List.map_map]
      conv => rhs; rw [← List.map_id (f :: fs)]
      exact List.map_congr_left fun g hg => sigP_line (h3 g hg)
  generalize hfs : (if a = ByteArray.mk #[] then [] else xs.map sigP) = rs at key
  have hrl : rs.length < 1000000000 := by
    rw [← hfs]
    split
    · simp
    · simp; omega
  have hrn : ∀ f ∈ rs, f.name.size < 4611686018427387904 := by
    intro f hf
    rw [← hfs] at hf
    split at hf
    · cases hf
    · obtain ⟨w, hw1, rfl⟩ := List.mem_map.1 hf
      have h1 := hw w hw1
      have h2 := cutA_len 40 w
      unfold sigP
      rw [mk_size]; omega
  rw [n141_p hrl hrn, n142_p hrl hrn]
  simp only [Option.bind_some]
  cases ho : faceOk rs with
  | false =>
    refine ⟨_, rfl, ?_⟩
    simp only [Bool.false_eq_true, false_iff]
    rintro ⟨fs, h1, h2⟩
    rw [key fs h1 h2, h1] at ho; cases ho
  | true =>
    simp only [if_neg (show ¬ (true = false) by decide), if_true, bindB_t]
    by_cases he : mk (faceL rs) = a
    · refine ⟨(rs, true), by simp [he], by simp; exact ⟨_, ho, he.symm⟩⟩
    · refine ⟨([], false), by simp [he], ?_⟩
      simp only [Bool.false_eq_true, false_iff]
      rintro ⟨fs, h1, h2⟩
      rw [key fs h1 h2] at he
      exact he h2.symm
end Go.Fs.Se
