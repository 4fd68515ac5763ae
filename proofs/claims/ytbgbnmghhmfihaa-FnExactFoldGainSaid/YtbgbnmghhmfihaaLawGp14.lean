/- A part of the proof: an evaluator of the program's code over plain data, proved sound, and walks of the program's functions by it. No conditions beyond those in the theorems. -/
import Derived.Test.YtbgbnmghhmfihaaLawGp13
set_option linter.unusedVariables false
set_option linter.unusedSimpArgs false
set_option linter.constructorNameAsVariable false
set_option linter.unusedSectionVars false
set_option linter.defProp false
set_option linter.unusedVariables false
namespace Go.Fs
open Cel (cel unc)
open Dat (enc dec)
open Arg (ea da)

structure KeepRec where
  name : ByteArray
  src : ByteArray
  faces : (List ByteArray)
  face : ByteArray
  obj : ByteArray
  deriving Inhabited
def uncKeepRec : List D → Option KeepRec
  | [d0, d1, d2, d3, d4] => (dec d0).bind fun x_name => (dec d1).bind fun x_src => (dec d2).bind fun x_faces => (dec d3).bind fun x_face => (dec d4).bind fun x_obj => some ⟨x_name, x_src, x_faces, x_face, x_obj⟩
  | _ => none
instance : Cel KeepRec where
  cel x := [enc x.name, enc x.src, enc x.faces, enc x.face, enc x.obj]
  unc := uncKeepRec
  w := 5
  unc_cel x := by
    obtain ⟨x_name, x_src, x_faces, x_face, x_obj⟩ := x
    simp only [uncKeepRec, Dat.dec_enc, Option.bind_some]
  cel_unc ds x h := by
    unfold uncKeepRec at h
    split at h
    · simp only [Option.bind_eq_some_iff, Option.some.injEq] at h
      obtain ⟨y_name, h_name, y_src, h_src, y_faces, h_faces, y_face, h_face, y_obj, h_obj, rfl⟩ := h
      have k_name := Dat.enc_dec _ _ h_name
      have k_src := Dat.enc_dec _ _ h_src
      have k_faces := Dat.enc_dec _ _ h_faces
      have k_face := Dat.enc_dec _ _ h_face
      have k_obj := Dat.enc_dec _ _ h_obj
      simp only [k_name, k_src, k_faces, k_face, k_obj]
    · cases h
  len x := by simp only [List.length_cons, List.length_nil, List.length_append]
instance : Dat KeepRec := datOf
theorem w_KeepRec : Cel.w KeepRec = 5 := rfl
theorem cel_KeepRec (x : KeepRec) : cel x = [enc x.name, enc x.src, enc x.faces, enc x.face, enc x.obj] := rfl
theorem unc_KeepRec (d0 d1 d2 d3 d4 : D) : unc (α := KeepRec) [d0, d1, d2, d3, d4] = (dec d0).bind fun x_name => (dec d1).bind fun x_src => (dec d2).bind fun x_faces => (dec d3).bind fun x_face => (dec d4).bind fun x_obj => some ⟨x_name, x_src, x_faces, x_face, x_obj⟩ := rfl
theorem enc_KeepRec (x : KeepRec) : enc x = .g (cel x) := rfl
theorem dec_KeepRec (ds : List D) : dec (α := KeepRec) (.g ds) = unc ds := rfl
theorem eta_KeepRec (x : KeepRec) : (⟨x.name, x.src, x.faces, x.face, x.obj⟩ : KeepRec) = x := by cases x; rfl

structure CodeIns where
  op : Int
  a : Int
  deriving Inhabited
def uncCodeIns : List D → Option CodeIns
  | [d0, d1] => (dec d0).bind fun x_op => (dec d1).bind fun x_a => some ⟨x_op, x_a⟩
  | _ => none
instance : Cel CodeIns where
  cel x := [enc x.op, enc x.a]
  unc := uncCodeIns
  w := 2
  unc_cel x := by
    obtain ⟨x_op, x_a⟩ := x
    simp only [uncCodeIns, Dat.dec_enc, Option.bind_some]
  cel_unc ds x h := by
    unfold uncCodeIns at h
    split at h
    · simp only [Option.bind_eq_some_iff, Option.some.injEq] at h
      obtain ⟨y_op, h_op, y_a, h_a, rfl⟩ := h
      have k_op := Dat.enc_dec _ _ h_op
      have k_a := Dat.enc_dec _ _ h_a
      simp only [k_op, k_a]
    · cases h
  len x := by simp only [List.length_cons, List.length_nil, List.length_append]
instance : Dat CodeIns := datOf
theorem w_CodeIns : Cel.w CodeIns = 2 := rfl
theorem cel_CodeIns (x : CodeIns) : cel x = [enc x.op, enc x.a] := rfl
theorem unc_CodeIns (d0 d1 : D) : unc (α := CodeIns) [d0, d1] = (dec d0).bind fun x_op => (dec d1).bind fun x_a => some ⟨x_op, x_a⟩ := rfl
theorem enc_CodeIns (x : CodeIns) : enc x = .g (cel x) := rfl
theorem dec_CodeIns (ds : List D) : dec (α := CodeIns) (.g ds) = unc ds := rfl
theorem eta_CodeIns (x : CodeIns) : (⟨x.op, x.a⟩ : CodeIns) = x := by cases x; rfl
theorem all_CodeIns (xs : List CodeIns) : (xs.map cel).all (fun x => x.all scal) = true := all_scal (fun _ => rfl) xs

structure LinkFun where
  mod : ByteArray
  name : ByteArray
  args : (List Int)
  type : Int
  slots : Int
  code : (List CodeIns)
  deriving Inhabited
def uncLinkFun : List D → Option LinkFun
  | [d0, d1, d2, d3, d4, d5] => (dec d0).bind fun x_mod => (dec d1).bind fun x_name => (dec d2).bind fun x_args => (dec d3).bind fun x_type => (dec d4).bind fun x_slots => (dec d5).bind fun x_code => some ⟨x_mod, x_name, x_args, x_type, x_slots, x_code⟩
  | _ => none
instance : Cel LinkFun where
  cel x := [enc x.mod, enc x.name, enc x.args, enc x.type, enc x.slots, enc x.code]
  unc := uncLinkFun
  w := 6
  unc_cel x := by
    obtain ⟨x_mod, x_name, x_args, x_type, x_slots, x_code⟩ := x
    simp only [uncLinkFun, Dat.dec_enc, Option.bind_some]
  cel_unc ds x h := by
    unfold uncLinkFun at h
    split at h
    · simp only [Option.bind_eq_some_iff, Option.some.injEq] at h
      obtain ⟨y_mod, h_mod, y_name, h_name, y_args, h_args, y_type, h_type, y_slots, h_slots, y_code, h_code, rfl⟩ := h
      have k_mod := Dat.enc_dec _ _ h_mod
      have k_name := Dat.enc_dec _ _ h_name
      have k_args := Dat.enc_dec _ _ h_args
      have k_type := Dat.enc_dec _ _ h_type
      have k_slots := Dat.enc_dec _ _ h_slots
      have k_code := Dat.enc_dec _ _ h_code
      simp only [k_mod, k_name, k_args, k_type, k_slots, k_code]
    · cases h
  len x := by simp only [List.length_cons, List.length_nil, List.length_append]
instance : Dat LinkFun := datOf
theorem w_LinkFun : Cel.w LinkFun = 6 := rfl
theorem cel_LinkFun (x : LinkFun) : cel x = [enc x.mod, enc x.name, enc x.args, enc x.type, enc x.slots, enc x.code] := rfl
theorem unc_LinkFun (d0 d1 d2 d3 d4 d5 : D) : unc (α := LinkFun) [d0, d1, d2, d3, d4, d5] = (dec d0).bind fun x_mod => (dec d1).bind fun x_name => (dec d2).bind fun x_args => (dec d3).bind fun x_type => (dec d4).bind fun x_slots => (dec d5).bind fun x_code => some ⟨x_mod, x_name, x_args, x_type, x_slots, x_code⟩ := rfl
theorem enc_LinkFun (x : LinkFun) : enc x = .g (cel x) := rfl
theorem dec_LinkFun (ds : List D) : dec (α := LinkFun) (.g ds) = unc ds := rfl
theorem eta_LinkFun (x : LinkFun) : (⟨x.mod, x.name, x.args, x.type, x.slots, x.code⟩ : LinkFun) = x := by cases x; rfl

structure LinkImage where
  funs : (List LinkFun)
  mains : (List Int)
  deriving Inhabited
def uncLinkImage : List D → Option LinkImage
  | [d0, d1] => (dec d0).bind fun x_funs => (dec d1).bind fun x_mains => some ⟨x_funs, x_mains⟩
  | _ => none
instance : Cel LinkImage where
  cel x := [enc x.funs, enc x.mains]
  unc := uncLinkImage
  w := 2
  unc_cel x := by
    obtain ⟨x_funs, x_mains⟩ := x
    simp only [uncLinkImage, Dat.dec_enc, Option.bind_some]
  cel_unc ds x h := by
    unfold uncLinkImage at h
    split at h
    · simp only [Option.bind_eq_some_iff, Option.some.injEq] at h
      obtain ⟨y_funs, h_funs, y_mains, h_mains, rfl⟩ := h
      have k_funs := Dat.enc_dec _ _ h_funs
      have k_mains := Dat.enc_dec _ _ h_mains
      simp only [k_funs, k_mains]
    · cases h
  len x := by simp only [List.length_cons, List.length_nil, List.length_append]
instance : Dat LinkImage := datOf
theorem w_LinkImage : Cel.w LinkImage = 2 := rfl
theorem cel_LinkImage (x : LinkImage) : cel x = [enc x.funs, enc x.mains] := rfl
theorem unc_LinkImage (d0 d1 : D) : unc (α := LinkImage) [d0, d1] = (dec d0).bind fun x_funs => (dec d1).bind fun x_mains => some ⟨x_funs, x_mains⟩ := rfl
theorem enc_LinkImage (x : LinkImage) : enc x = .g (cel x) := rfl
theorem dec_LinkImage (ds : List D) : dec (α := LinkImage) (.g ds) = unc ds := rfl
theorem eta_LinkImage (x : LinkImage) : (⟨x.funs, x.mains⟩ : LinkImage) = x := by cases x; rfl

structure TreeExpr where
  kind : Int
  num : Int
  name : ByteArray
  mod : ByteArray
  kids : (List TreeExpr)
mutual
def TreeExpr.cel' : TreeExpr → List D
  | ⟨k, n, s, m, ks⟩ => [.i .i64 k, .i .i64 n, .s s, .s m, .l 5 (TreeExpr.celL ks)]
def TreeExpr.celL : List TreeExpr → List (List D)
  | [] => []
  | e :: es => TreeExpr.cel' e :: TreeExpr.celL es
end
mutual
def TreeExpr.unc' : List D → Option TreeExpr
  | [.i .i64 k, .i .i64 n, .s s, .s m, .l 5 ks] => (TreeExpr.uncL' ks).map fun es => ⟨k, n, s, m, es⟩
  | _ => none
def TreeExpr.uncL' : List (List D) → Option (List TreeExpr)
  | [] => some []
  | e :: es => (TreeExpr.unc' e).bind fun x => (TreeExpr.uncL' es).map (x :: ·)
end
mutual
theorem TreeExpr.unc_cel' : ∀ e : TreeExpr, TreeExpr.unc' (TreeExpr.cel' e) = some e
  | ⟨k, n, s, m, ks⟩ => by simp only [TreeExpr.cel', TreeExpr.unc', TreeExpr.unc_celL ks, Option.map_some]
theorem TreeExpr.unc_celL : ∀ es : List TreeExpr, TreeExpr.uncL' (TreeExpr.celL es) = some es
  | [] => by simp only [TreeExpr.celL, TreeExpr.uncL']
  | e :: es => by simp only [TreeExpr.celL, TreeExpr.uncL', TreeExpr.unc_cel' e, Option.bind_some, TreeExpr.unc_celL es, Option.map_some]
end
mutual
theorem TreeExpr.cel_unc' : ∀ (ds : List D) (e : TreeExpr), TreeExpr.unc' ds = some e → ds = TreeExpr.cel' e
  | [.i .i64 k, .i .i64 n, .s s, .s m, .l 5 ks], e, h => by
    simp only [TreeExpr.unc', Option.map_eq_some_iff] at h
    obtain ⟨es, h, rfl⟩ := h
    simp only [TreeExpr.cel', TreeExpr.cel_uncL ks es h]
  | [], e, h => by simp [TreeExpr.unc'] at h
  | ds, e, h => by
    unfold TreeExpr.unc' at h
    split at h
    · rename_i k n s m ks
      simp only [Option.map_eq_some_iff] at h
      obtain ⟨es, h, rfl⟩ := h
      simp only [TreeExpr.cel', TreeExpr.cel_uncL ks es h]
    · cases h
theorem TreeExpr.cel_uncL : ∀ (ds : List (List D)) (es : List TreeExpr), TreeExpr.uncL' ds = some es → ds = TreeExpr.celL es
  | [], es, h => by simp only [TreeExpr.uncL', Option.some.injEq] at h; subst h; rfl
  | d :: ds, es, h => by
    simp only [TreeExpr.uncL', Option.bind_eq_some_iff, Option.map_eq_some_iff] at h
    obtain ⟨x, h1, xs, h2, rfl⟩ := h
    rw [TreeExpr.celL, TreeExpr.cel_unc' d x h1, TreeExpr.cel_uncL ds xs h2]
end
instance : Cel TreeExpr := ⟨TreeExpr.cel', TreeExpr.unc', 5, TreeExpr.unc_cel', TreeExpr.cel_unc', fun e => by cases e; rfl⟩
theorem TreeExpr.celL_map : ∀ es : List TreeExpr, TreeExpr.celL es = es.map cel
  | [] => rfl
  | e :: es => by rw [TreeExpr.celL, TreeExpr.celL_map es]; rfl
theorem TreeExpr.uncL_map : ∀ ds : List (List D), TreeExpr.uncL' ds = uncL (unc (α := TreeExpr)) ds
  | [] => by simp only [TreeExpr.uncL', uncL]
  | d :: ds => by rw [TreeExpr.uncL', TreeExpr.uncL_map ds]; rfl
instance : Dat TreeExpr := datOf
instance : Inhabited TreeExpr := ⟨⟨0, 0, .empty, .empty, []⟩⟩
theorem cel_TreeExpr' (x : TreeExpr) : cel x = [enc x.kind, enc x.num, enc x.name, enc x.mod, enc x.kids] := by
  obtain ⟨k, n, s, m, ks⟩ := x
  show TreeExpr.cel' _ = _
  simp only [TreeExpr.cel', TreeExpr.celL_map]
  rfl
theorem unc_TreeExpr' (d0 d1 d2 d3 d4 : D) : unc (α := TreeExpr) [d0, d1, d2, d3, d4] = (dec d0).bind fun x_kind => (dec d1).bind fun x_num => (dec d2).bind fun x_name => (dec d3).bind fun x_mod => (dec d4).bind fun x_kids => some ⟨x_kind, x_num, x_name, x_mod, x_kids⟩ := by
  apply Option.ext
  intro e
  constructor
  · intro h
    have h2 := Cel.cel_unc _ _ h
    rw [cel_TreeExpr'] at h2
    simp only [List.cons.injEq, and_true] at h2
    obtain ⟨rfl, rfl, rfl, rfl, rfl⟩ := h2
    simp only [Dat.dec_enc, Option.bind_some]
    cases e; rfl
  · intro h
    simp only [Option.bind_eq_some_iff, Option.some.injEq] at h
    obtain ⟨k, h1, n, h2, s, h3, m, h4, ks, h5, rfl⟩ := h
    rw [Dat.enc_dec _ _ h1, Dat.enc_dec _ _ h2, Dat.enc_dec _ _ h3, Dat.enc_dec _ _ h4, Dat.enc_dec _ _ h5]
    have := Cel.unc_cel (⟨k, n, s, m, ks⟩ : TreeExpr)
    rw [cel_TreeExpr'] at this
    exact this

theorem w_TreeExpr : Cel.w TreeExpr = 5 := rfl
theorem cel_TreeExpr (x : TreeExpr) : cel x = [enc x.kind, enc x.num, enc x.name, enc x.mod, enc x.kids] := cel_TreeExpr' x
theorem unc_TreeExpr (d0 d1 d2 d3 d4 : D) : unc (α := TreeExpr) [d0, d1, d2, d3, d4] = (dec d0).bind fun x_kind => (dec d1).bind fun x_num => (dec d2).bind fun x_name => (dec d3).bind fun x_mod => (dec d4).bind fun x_kids => some ⟨x_kind, x_num, x_name, x_mod, x_kids⟩ := unc_TreeExpr' d0 d1 d2 d3 d4
theorem enc_TreeExpr (x : TreeExpr) : enc x = .g (cel x) := rfl
theorem dec_TreeExpr (ds : List D) : dec (α := TreeExpr) (.g ds) = unc ds := rfl
theorem eta_TreeExpr (x : TreeExpr) : (⟨x.kind, x.num, x.name, x.mod, x.kids⟩ : TreeExpr) = x := by cases x; rfl

structure TreeArg where
  name : ByteArray
  type : Int
  deriving Inhabited
def uncTreeArg : List D → Option TreeArg
  | [d0, d1] => (dec d0).bind fun x_name => (dec d1).bind fun x_type => some ⟨x_name, x_type⟩
  | _ => none
instance : Cel TreeArg where
  cel x := [enc x.name, enc x.type]
  unc := uncTreeArg
  w := 2
  unc_cel x := by
    obtain ⟨x_name, x_type⟩ := x
    simp only [uncTreeArg, Dat.dec_enc, Option.bind_some]
  cel_unc ds x h := by
    unfold uncTreeArg at h
    split at h
    · simp only [Option.bind_eq_some_iff, Option.some.injEq] at h
      obtain ⟨y_name, h_name, y_type, h_type, rfl⟩ := h
      have k_name := Dat.enc_dec _ _ h_name
      have k_type := Dat.enc_dec _ _ h_type
      simp only [k_name, k_type]
    · cases h
  len x := by simp only [List.length_cons, List.length_nil, List.length_append]
instance : Dat TreeArg := datOf
theorem w_TreeArg : Cel.w TreeArg = 2 := rfl
theorem cel_TreeArg (x : TreeArg) : cel x = [enc x.name, enc x.type] := rfl
theorem unc_TreeArg (d0 d1 : D) : unc (α := TreeArg) [d0, d1] = (dec d0).bind fun x_name => (dec d1).bind fun x_type => some ⟨x_name, x_type⟩ := rfl
theorem enc_TreeArg (x : TreeArg) : enc x = .g (cel x) := rfl
theorem dec_TreeArg (ds : List D) : dec (α := TreeArg) (.g ds) = unc ds := rfl
theorem eta_TreeArg (x : TreeArg) : (⟨x.name, x.type⟩ : TreeArg) = x := by cases x; rfl
theorem all_TreeArg (xs : List TreeArg) : (xs.map cel).all (fun x => x.all scal) = true := all_scal (fun _ => rfl) xs

structure TreeFun where
  name : ByteArray
  pub : Bool
  args : (List TreeArg)
  type : Int
  body : TreeExpr
  deriving Inhabited
def uncTreeFun : List D → Option TreeFun
  | [d0, d1, d2, d3, d4, d5, d6, d7, d8] => (dec d0).bind fun x_name => (dec d1).bind fun x_pub => (dec d2).bind fun x_args => (dec d3).bind fun x_type => (unc [d4, d5, d6, d7, d8]).bind fun x_body => some ⟨x_name, x_pub, x_args, x_type, x_body⟩
  | _ => none
instance : Cel TreeFun where
  cel x := [enc x.name, enc x.pub, enc x.args, enc x.type] ++ cel x.body
  unc := uncTreeFun
  w := 9
  unc_cel x := by
    obtain ⟨x_name, x_pub, x_args, x_type, x_body⟩ := x
    have h_body := Cel.unc_cel x_body
    have l_body := Cel.len x_body
    obtain ⟨e_body0, e_body1, e_body2, e_body3, e_body4, e_body⟩ := len5 l_body
    rw [e_body] at h_body
    simp only [e_body, List.cons_append, List.nil_append, List.append_nil]
    simp only [uncTreeFun, Dat.dec_enc, Option.bind_some, h_body]
  cel_unc ds x h := by
    unfold uncTreeFun at h
    split at h
    · simp only [Option.bind_eq_some_iff, Option.some.injEq] at h
      obtain ⟨y_name, h_name, y_pub, h_pub, y_args, h_args, y_type, h_type, y_body, h_body, rfl⟩ := h
      have k_name := Dat.enc_dec _ _ h_name
      have k_pub := Dat.enc_dec _ _ h_pub
      have k_args := Dat.enc_dec _ _ h_args
      have k_type := Dat.enc_dec _ _ h_type
      have k_body := Cel.cel_unc _ _ h_body
      simp only [k_name, k_pub, k_args, k_type, ← k_body, List.cons_append, List.nil_append]
    · cases h
  len x := by simp only [List.length_cons, List.length_nil, List.length_append, Cel.len x.body, show Cel.w TreeExpr = 5 from rfl]
instance : Dat TreeFun := datOf
theorem w_TreeFun : Cel.w TreeFun = 9 := rfl
theorem cel_TreeFun (x : TreeFun) : cel x = [enc x.name, enc x.pub, enc x.args, enc x.type] ++ cel x.body := rfl
theorem unc_TreeFun (d0 d1 d2 d3 d4 d5 d6 d7 d8 : D) : unc (α := TreeFun) [d0, d1, d2, d3, d4, d5, d6, d7, d8] = (dec d0).bind fun x_name => (dec d1).bind fun x_pub => (dec d2).bind fun x_args => (dec d3).bind fun x_type => (unc [d4, d5, d6, d7, d8]).bind fun x_body => some ⟨x_name, x_pub, x_args, x_type, x_body⟩ := rfl
theorem enc_TreeFun (x : TreeFun) : enc x = .g (cel x) := rfl
theorem dec_TreeFun (ds : List D) : dec (α := TreeFun) (.g ds) = unc ds := rfl
theorem eta_TreeFun (x : TreeFun) : (⟨x.name, x.pub, x.args, x.type, x.body⟩ : TreeFun) = x := by cases x; rfl

structure TreeMod where
  uses : (List ByteArray)
  funs : (List TreeFun)
  main : (List TreeExpr)
  deriving Inhabited
def uncTreeMod : List D → Option TreeMod
  | [d0, d1, d2] => (dec d0).bind fun x_uses => (dec d1).bind fun x_funs => (dec d2).bind fun x_main => some ⟨x_uses, x_funs, x_main⟩
  | _ => none
instance : Cel TreeMod where
  cel x := [enc x.uses, enc x.funs, enc x.main]
  unc := uncTreeMod
  w := 3
  unc_cel x := by
    obtain ⟨x_uses, x_funs, x_main⟩ := x
    simp only [uncTreeMod, Dat.dec_enc, Option.bind_some]
  cel_unc ds x h := by
    unfold uncTreeMod at h
    split at h
    · simp only [Option.bind_eq_some_iff, Option.some.injEq] at h
      obtain ⟨y_uses, h_uses, y_funs, h_funs, y_main, h_main, rfl⟩ := h
      have k_uses := Dat.enc_dec _ _ h_uses
      have k_funs := Dat.enc_dec _ _ h_funs
      have k_main := Dat.enc_dec _ _ h_main
      simp only [k_uses, k_funs, k_main]
    · cases h
  len x := by simp only [List.length_cons, List.length_nil, List.length_append]
instance : Dat TreeMod := datOf
theorem w_TreeMod : Cel.w TreeMod = 3 := rfl
theorem cel_TreeMod (x : TreeMod) : cel x = [enc x.uses, enc x.funs, enc x.main] := rfl
theorem unc_TreeMod (d0 d1 d2 : D) : unc (α := TreeMod) [d0, d1, d2] = (dec d0).bind fun x_uses => (dec d1).bind fun x_funs => (dec d2).bind fun x_main => some ⟨x_uses, x_funs, x_main⟩ := rfl
theorem enc_TreeMod (x : TreeMod) : enc x = .g (cel x) := rfl
theorem dec_TreeMod (ds : List D) : dec (α := TreeMod) (.g ds) = unc ds := rfl
theorem eta_TreeMod (x : TreeMod) : (⟨x.uses, x.funs, x.main⟩ : TreeMod) = x := by cases x; rfl

structure CodeFun where
  name : ByteArray
  pub : Bool
  args : (List Int)
  type : Int
  slots : Int
  code : (List CodeIns)
  deriving Inhabited
def uncCodeFun : List D → Option CodeFun
  | [d0, d1, d2, d3, d4, d5] => (dec d0).bind fun x_name => (dec d1).bind fun x_pub => (dec d2).bind fun x_args => (dec d3).bind fun x_type => (dec d4).bind fun x_slots => (dec d5).bind fun x_code => some ⟨x_name, x_pub, x_args, x_type, x_slots, x_code⟩
  | _ => none
instance : Cel CodeFun where
  cel x := [enc x.name, enc x.pub, enc x.args, enc x.type, enc x.slots, enc x.code]
  unc := uncCodeFun
  w := 6
  unc_cel x := by
    obtain ⟨x_name, x_pub, x_args, x_type, x_slots, x_code⟩ := x
    simp only [uncCodeFun, Dat.dec_enc, Option.bind_some]
  cel_unc ds x h := by
    unfold uncCodeFun at h
    split at h
    · simp only [Option.bind_eq_some_iff, Option.some.injEq] at h
      obtain ⟨y_name, h_name, y_pub, h_pub, y_args, h_args, y_type, h_type, y_slots, h_slots, y_code, h_code, rfl⟩ := h
      have k_name := Dat.enc_dec _ _ h_name
      have k_pub := Dat.enc_dec _ _ h_pub
      have k_args := Dat.enc_dec _ _ h_args
      have k_type := Dat.enc_dec _ _ h_type
      have k_slots := Dat.enc_dec _ _ h_slots
      have k_code := Dat.enc_dec _ _ h_code
      simp only [k_name, k_pub, k_args, k_type, k_slots, k_code]
    · cases h
  len x := by simp only [List.length_cons, List.length_nil, List.length_append]
instance : Dat CodeFun := datOf
theorem w_CodeFun : Cel.w CodeFun = 6 := rfl
theorem cel_CodeFun (x : CodeFun) : cel x = [enc x.name, enc x.pub, enc x.args, enc x.type, enc x.slots, enc x.code] := rfl
theorem unc_CodeFun (d0 d1 d2 d3 d4 d5 : D) : unc (α := CodeFun) [d0, d1, d2, d3, d4, d5] = (dec d0).bind fun x_name => (dec d1).bind fun x_pub => (dec d2).bind fun x_args => (dec d3).bind fun x_type => (dec d4).bind fun x_slots => (dec d5).bind fun x_code => some ⟨x_name, x_pub, x_args, x_type, x_slots, x_code⟩ := rfl
theorem enc_CodeFun (x : CodeFun) : enc x = .g (cel x) := rfl
theorem dec_CodeFun (ds : List D) : dec (α := CodeFun) (.g ds) = unc ds := rfl
theorem eta_CodeFun (x : CodeFun) : (⟨x.name, x.pub, x.args, x.type, x.slots, x.code⟩ : CodeFun) = x := by cases x; rfl

structure MeanVal where
  kind : Int
  num : Int
  row : (List Int)
  deriving Inhabited
def uncMeanVal : List D → Option MeanVal
  | [d0, d1, d2] => (dec d0).bind fun x_kind => (dec d1).bind fun x_num => (dec d2).bind fun x_row => some ⟨x_kind, x_num, x_row⟩
  | _ => none
instance : Cel MeanVal where
  cel x := [enc x.kind, enc x.num, enc x.row]
  unc := uncMeanVal
  w := 3
  unc_cel x := by
    obtain ⟨x_kind, x_num, x_row⟩ := x
    simp only [uncMeanVal, Dat.dec_enc, Option.bind_some]
  cel_unc ds x h := by
    unfold uncMeanVal at h
    split at h
    · simp only [Option.bind_eq_some_iff, Option.some.injEq] at h
      obtain ⟨y_kind, h_kind, y_num, h_num, y_row, h_row, rfl⟩ := h
      have k_kind := Dat.enc_dec _ _ h_kind
      have k_num := Dat.enc_dec _ _ h_num
      have k_row := Dat.enc_dec _ _ h_row
      simp only [k_kind, k_num, k_row]
    · cases h
  len x := by simp only [List.length_cons, List.length_nil, List.length_append]
instance : Dat MeanVal := datOf
theorem w_MeanVal : Cel.w MeanVal = 3 := rfl
theorem cel_MeanVal (x : MeanVal) : cel x = [enc x.kind, enc x.num, enc x.row] := rfl
theorem unc_MeanVal (d0 d1 d2 : D) : unc (α := MeanVal) [d0, d1, d2] = (dec d0).bind fun x_kind => (dec d1).bind fun x_num => (dec d2).bind fun x_row => some ⟨x_kind, x_num, x_row⟩ := rfl
theorem enc_MeanVal (x : MeanVal) : enc x = .g (cel x) := rfl
theorem dec_MeanVal (ds : List D) : dec (α := MeanVal) (.g ds) = unc ds := rfl
theorem eta_MeanVal (x : MeanVal) : (⟨x.kind, x.num, x.row⟩ : MeanVal) = x := by cases x; rfl

set_option linter.defProp false
def tyS := (And.intro (And.intro (And.intro (And.intro (And.intro @w_KeepRec (And.intro @cel_KeepRec @unc_KeepRec)) (And.intro (And.intro @enc_KeepRec @dec_KeepRec) (And.intro @eta_KeepRec @all_CodeIns))) (And.intro (And.intro (And.intro @w_CodeIns @cel_CodeIns) (And.intro @unc_CodeIns @enc_CodeIns)) (And.intro (And.intro @dec_CodeIns @eta_CodeIns) (And.intro @w_LinkFun @cel_LinkFun)))) (And.intro (And.intro (And.intro (And.intro @unc_LinkFun @enc_LinkFun) (And.intro @dec_LinkFun @eta_LinkFun)) (And.intro (And.intro @w_LinkImage @cel_LinkImage) (And.intro @unc_LinkImage @enc_LinkImage))) (And.intro (And.intro (And.intro @dec_LinkImage @eta_LinkImage) (And.intro @w_TreeExpr @cel_TreeExpr)) (And.intro (And.intro @unc_TreeExpr @enc_TreeExpr) (And.intro @dec_TreeExpr @eta_TreeExpr))))) (And.intro (And.intro (And.intro (And.intro @all_TreeArg (And.intro @w_TreeArg @cel_TreeArg)) (And.intro (And.intro @unc_TreeArg @enc_TreeArg) (And.intro @dec_TreeArg @eta_TreeArg))) (And.intro (And.intro (And.intro @w_TreeFun @cel_TreeFun) (And.intro @unc_TreeFun @enc_TreeFun)) (And.intro (And.intro @dec_TreeFun @eta_TreeFun) (And.intro @w_TreeMod @cel_TreeMod)))) (And.intro (And.intro (And.intro (And.intro @unc_TreeMod @enc_TreeMod) (And.intro @dec_TreeMod @eta_TreeMod)) (And.intro (And.intro @w_CodeFun @cel_CodeFun) (And.intro @unc_CodeFun @enc_CodeFun))) (And.intro (And.intro (And.intro @dec_CodeFun @eta_CodeFun) (And.intro @w_MeanVal @cel_MeanVal)) (And.intro (And.intro @unc_MeanVal @enc_MeanVal) (And.intro @dec_MeanVal @eta_MeanVal))))))
end Go.Fs
