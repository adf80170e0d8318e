/- The data of the program, and their cells. -/
import Derived.Test.YtojmemlbajnhhaaBmP
namespace Go.Proofs.Ytojmemlbajnhhaa
open Go Go.Bm Go.Proofs
set_option linter.all false

structure Token where
  cat : Int
  char : Int
  name : ByteArray
  deriving Inhabited, DecidableEq
@[simp] def Token.enc (x : Token) : List AV := [.int .i64 x.cat, .int .i64 x.char, .str x.name]
theorem Token.ok : EncF 3 Token.enc := ⟨⟨fun _ => rfl, fun _ => rfl⟩, fun _ _ _ _ => rfl⟩
@[simp] theorem Token.eta (x : Token) : (⟨x.cat, x.char, x.name⟩ : Token) = x := rfl
def Token.W (x : Token) : Nat := x.name.size
def Token.Ok (x : Token) : Prop := (-9223372036854775808 ≤ x.cat ∧ x.cat ≤ 9223372036854775807) ∧ (-9223372036854775808 ≤ x.char ∧ x.char ≤ 9223372036854775807) ∧ (x.name.size ≤ maxLen)
def Token.ty : List Ty := [.int .i64, .int .i64, .str]
theorem Token.dec : ∀ r, TyL Token.ty r → ∃ x : Token, r = x.enc ∧ x.Ok := by
  rintro r ⟨_, _, rfl, ⟨a0, rfl, o0⟩, _, _, rfl, ⟨a1, rfl, o1⟩, _, _, rfl, ⟨a2, rfl, o2⟩, rfl⟩
  exact ⟨⟨a0, a1, a2⟩, rfl, ⟨wf_i64 o0, wf_i64 o1, o2⟩⟩

structure Macro where
  pattern : List Token
  slots : Int
  body : List Token
  deriving Inhabited, DecidableEq
@[simp] def Macro.enc (x : Macro) : List AV := [.fs none (x.pattern.map Token.enc), .int .i64 x.slots, .fs none (x.body.map Token.enc)]
theorem Macro.ok : EncF 3 Macro.enc := ⟨⟨fun _ => rfl, fun _ => rfl⟩, fun _ _ _ _ => rfl⟩
@[simp] theorem Macro.eta (x : Macro) : (⟨x.pattern, x.slots, x.body⟩ : Macro) = x := rfl
def Macro.W (x : Macro) : Nat := WS Token.W x.pattern + WS Token.W x.body
def Macro.Ok (x : Macro) : Prop := (x.pattern.length ≤ maxLen ∧ ∀ y ∈ x.pattern, Token.Ok y) ∧ (-9223372036854775808 ≤ x.slots ∧ x.slots ≤ 9223372036854775807) ∧ (x.body.length ≤ maxLen ∧ ∀ y ∈ x.body, Token.Ok y)
def Macro.ty : List Ty := [.sl 3 Token.ty, .int .i64, .sl 3 Token.ty]
theorem Macro.dec : ∀ r, TyL Macro.ty r → ∃ x : Macro, r = x.enc ∧ x.Ok := by
  rintro r ⟨_, _, rfl, o0, _, _, rfl, ⟨a1, rfl, o1⟩, _, _, rfl, o2, rfl⟩
  obtain ⟨a0, rfl, o0l, o0m⟩ := sl_dec (enc := Token.enc) (ok := fun z => Token.Ok z) Token.dec o0
  obtain ⟨a2, rfl, o2l, o2m⟩ := sl_dec (enc := Token.enc) (ok := fun z => Token.Ok z) Token.dec o2
  exact ⟨⟨a0, a1, a2⟩, rfl, ⟨⟨o0l, o0m⟩, wf_i64 o1, ⟨o2l, o2m⟩⟩⟩

structure Mean where
  kind : Int
  num : Int
  token : Token
  macro_ : Macro
  deriving Inhabited, DecidableEq
@[simp] def Mean.enc (x : Mean) : List AV := [.int .i64 x.kind, .int .i64 x.num, .int .i64 x.token.cat, .int .i64 x.token.char, .str x.token.name, .fs none (x.macro_.pattern.map Token.enc), .int .i64 x.macro_.slots, .fs none (x.macro_.body.map Token.enc)]
theorem Mean.ok : EncF 8 Mean.enc := ⟨⟨fun _ => rfl, fun _ => rfl⟩, fun _ _ _ _ => rfl⟩
@[simp] theorem Mean.eta (x : Mean) : (⟨x.kind, x.num, x.token, x.macro_⟩ : Mean) = x := rfl
def Mean.W (x : Mean) : Nat := Token.W x.token + Macro.W x.macro_
def Mean.Ok (x : Mean) : Prop := (-9223372036854775808 ≤ x.kind ∧ x.kind ≤ 9223372036854775807) ∧ (-9223372036854775808 ≤ x.num ∧ x.num ≤ 9223372036854775807) ∧ (Token.Ok x.token) ∧ (Macro.Ok x.macro_)
def Mean.ty : List Ty := [.int .i64, .int .i64, .int .i64, .int .i64, .str, .sl 3 Token.ty, .int .i64, .sl 3 Token.ty]
theorem Mean.dec : ∀ r, TyL Mean.ty r → ∃ x : Mean, r = x.enc ∧ x.Ok := by
  rintro r ⟨_, _, rfl, ⟨a0, rfl, o0⟩, _, _, rfl, ⟨a1, rfl, o1⟩, _, _, rfl, ⟨a2, rfl, o2⟩, _, _, rfl, ⟨a3, rfl, o3⟩, _, _, rfl, ⟨a4, rfl, o4⟩, _, _, rfl, o5, _, _, rfl, ⟨a6, rfl, o6⟩, _, _, rfl, o7, rfl⟩
  obtain ⟨a5, rfl, o5l, o5m⟩ := sl_dec (enc := Token.enc) (ok := fun z => Token.Ok z) Token.dec o5
  obtain ⟨a7, rfl, o7l, o7m⟩ := sl_dec (enc := Token.enc) (ok := fun z => Token.Ok z) Token.dec o7
  exact ⟨⟨a0, a1, ⟨a2, a3, a4⟩, ⟨a5, a6, a7⟩⟩, rfl, ⟨wf_i64 o0, wf_i64 o1, ⟨wf_i64 o2, wf_i64 o3, o4⟩, ⟨⟨o5l, o5m⟩, wf_i64 o6, ⟨o7l, o7m⟩⟩⟩⟩

structure Bind where
  name : ByteArray
  mean : Mean
  deriving Inhabited, DecidableEq
@[simp] def Bind.enc (x : Bind) : List AV := [.str x.name, .int .i64 x.mean.kind, .int .i64 x.mean.num, .int .i64 x.mean.token.cat, .int .i64 x.mean.token.char, .str x.mean.token.name, .fs none (x.mean.macro_.pattern.map Token.enc), .int .i64 x.mean.macro_.slots, .fs none (x.mean.macro_.body.map Token.enc)]
theorem Bind.ok : EncF 9 Bind.enc := ⟨⟨fun _ => rfl, fun _ => rfl⟩, fun _ _ _ _ => rfl⟩
@[simp] theorem Bind.eta (x : Bind) : (⟨x.name, x.mean⟩ : Bind) = x := rfl
def Bind.W (x : Bind) : Nat := x.name.size + Mean.W x.mean
def Bind.Ok (x : Bind) : Prop := (x.name.size ≤ maxLen) ∧ (Mean.Ok x.mean)
def Bind.ty : List Ty := [.str, .int .i64, .int .i64, .int .i64, .int .i64, .str, .sl 3 Token.ty, .int .i64, .sl 3 Token.ty]
theorem Bind.dec : ∀ r, TyL Bind.ty r → ∃ x : Bind, r = x.enc ∧ x.Ok := by
  rintro r ⟨_, _, rfl, ⟨a0, rfl, o0⟩, _, _, rfl, ⟨a1, rfl, o1⟩, _, _, rfl, ⟨a2, rfl, o2⟩, _, _, rfl, ⟨a3, rfl, o3⟩, _, _, rfl, ⟨a4, rfl, o4⟩, _, _, rfl, ⟨a5, rfl, o5⟩, _, _, rfl, o6, _, _, rfl, ⟨a7, rfl, o7⟩, _, _, rfl, o8, rfl⟩
  obtain ⟨a6, rfl, o6l, o6m⟩ := sl_dec (enc := Token.enc) (ok := fun z => Token.Ok z) Token.dec o6
  obtain ⟨a8, rfl, o8l, o8m⟩ := sl_dec (enc := Token.enc) (ok := fun z => Token.Ok z) Token.dec o8
  exact ⟨⟨a0, ⟨a1, a2, ⟨a3, a4, a5⟩, ⟨a6, a7, a8⟩⟩⟩, rfl, ⟨o0, ⟨wf_i64 o1, wf_i64 o2, ⟨wf_i64 o3, wf_i64 o4, o5⟩, ⟨⟨o6l, o6m⟩, wf_i64 o7, ⟨o8l, o8m⟩⟩⟩⟩⟩

structure Glue where
  size : Int
  plus : Int
  plusOrder : Int
  minus : Int
  minusOrder : Int
  deriving Inhabited, DecidableEq
@[simp] def Glue.enc (x : Glue) : List AV := [.int .i64 x.size, .int .i64 x.plus, .int .i64 x.plusOrder, .int .i64 x.minus, .int .i64 x.minusOrder]
theorem Glue.ok : EncF 5 Glue.enc := ⟨⟨fun _ => rfl, fun _ => rfl⟩, fun _ _ _ _ => rfl⟩
@[simp] theorem Glue.eta (x : Glue) : (⟨x.size, x.plus, x.plusOrder, x.minus, x.minusOrder⟩ : Glue) = x := rfl
def Glue.Ok (x : Glue) : Prop := (-9223372036854775808 ≤ x.size ∧ x.size ≤ 9223372036854775807) ∧ (-9223372036854775808 ≤ x.plus ∧ x.plus ≤ 9223372036854775807) ∧ (-9223372036854775808 ≤ x.plusOrder ∧ x.plusOrder ≤ 9223372036854775807) ∧ (-9223372036854775808 ≤ x.minus ∧ x.minus ≤ 9223372036854775807) ∧ (-9223372036854775808 ≤ x.minusOrder ∧ x.minusOrder ≤ 9223372036854775807)
def Glue.ty : List Ty := [.int .i64, .int .i64, .int .i64, .int .i64, .int .i64]
theorem Glue.dec : ∀ r, TyL Glue.ty r → ∃ x : Glue, r = x.enc ∧ x.Ok := by
  rintro r ⟨_, _, rfl, ⟨a0, rfl, o0⟩, _, _, rfl, ⟨a1, rfl, o1⟩, _, _, rfl, ⟨a2, rfl, o2⟩, _, _, rfl, ⟨a3, rfl, o3⟩, _, _, rfl, ⟨a4, rfl, o4⟩, rfl⟩
  exact ⟨⟨a0, a1, a2, a3, a4⟩, rfl, ⟨wf_i64 o0, wf_i64 o1, wf_i64 o2, wf_i64 o3, wf_i64 o4⟩⟩

structure Level where
  cats : List Int
  binds : List Bind
  counts : List Int
  lens : List Int
  glues : List Glue
  toks : List (List Token)
  deriving Inhabited, DecidableEq
@[simp] def Level.enc (x : Level) : List AV := [.fs none (x.cats.map (encI .i64)), .fs none (x.binds.map Bind.enc), .fs none (x.counts.map (encI .i64)), .fs none (x.lens.map (encI .i64)), .fs none (x.glues.map Glue.enc), .fs none (x.toks.map (encS Token.enc))]
theorem Level.ok : EncF 6 Level.enc := ⟨⟨fun _ => rfl, fun _ => rfl⟩, fun _ _ _ _ => rfl⟩
@[simp] theorem Level.eta (x : Level) : (⟨x.cats, x.binds, x.counts, x.lens, x.glues, x.toks⟩ : Level) = x := rfl
def Level.W (x : Level) : Nat := x.cats.length + WS Bind.W x.binds + x.counts.length + x.lens.length + x.glues.length + WS (WS Token.W) x.toks
def Level.Ok (x : Level) : Prop := (x.cats.length ≤ maxLen ∧ ∀ y ∈ x.cats, (fun z => -9223372036854775808 ≤ z ∧ z ≤ 9223372036854775807) y) ∧ (x.binds.length ≤ maxLen ∧ ∀ y ∈ x.binds, Bind.Ok y) ∧ (x.counts.length ≤ maxLen ∧ ∀ y ∈ x.counts, (fun z => -9223372036854775808 ≤ z ∧ z ≤ 9223372036854775807) y) ∧ (x.lens.length ≤ maxLen ∧ ∀ y ∈ x.lens, (fun z => -9223372036854775808 ≤ z ∧ z ≤ 9223372036854775807) y) ∧ (x.glues.length ≤ maxLen ∧ ∀ y ∈ x.glues, Glue.Ok y) ∧ (x.toks.length ≤ maxLen ∧ ∀ y ∈ x.toks, (fun z => z.length ≤ maxLen ∧ ∀ y ∈ z, Token.Ok y) y)
def Level.ty : List Ty := [.sl 1 [.int .i64], .sl 9 Bind.ty, .sl 1 [.int .i64], .sl 1 [.int .i64], .sl 5 Glue.ty, .sl 1 [.sl 3 Token.ty]]
theorem Level.dec : ∀ r, TyL Level.ty r → ∃ x : Level, r = x.enc ∧ x.Ok := by
  rintro r ⟨_, _, rfl, o0, _, _, rfl, o1, _, _, rfl, o2, _, _, rfl, o3, _, _, rfl, o4, _, _, rfl, o5, rfl⟩
  obtain ⟨a0, rfl, o0l, o0m⟩ := sl_dec (enc := (encI .i64)) (ok := fun z => -9223372036854775808 ≤ z ∧ z ≤ 9223372036854775807) int_dec_i64 o0
  obtain ⟨a1, rfl, o1l, o1m⟩ := sl_dec (enc := Bind.enc) (ok := fun z => Bind.Ok z) Bind.dec o1
  obtain ⟨a2, rfl, o2l, o2m⟩ := sl_dec (enc := (encI .i64)) (ok := fun z => -9223372036854775808 ≤ z ∧ z ≤ 9223372036854775807) int_dec_i64 o2
  obtain ⟨a3, rfl, o3l, o3m⟩ := sl_dec (enc := (encI .i64)) (ok := fun z => -9223372036854775808 ≤ z ∧ z ≤ 9223372036854775807) int_dec_i64 o3
  obtain ⟨a4, rfl, o4l, o4m⟩ := sl_dec (enc := Glue.enc) (ok := fun z => Glue.Ok z) Glue.dec o4
  obtain ⟨a5, rfl, o5l, o5m⟩ := sl_dec (enc := (encS Token.enc)) (ok := fun z => z.length ≤ maxLen ∧ ∀ y ∈ z, Token.Ok y) (sl_dec1 Token.dec) o5
  exact ⟨⟨a0, a1, a2, a3, a4, a5⟩, rfl, ⟨⟨o0l, o0m⟩, ⟨o1l, o1m⟩, ⟨o2l, o2m⟩, ⟨o3l, o3m⟩, ⟨o4l, o4m⟩, ⟨o5l, o5m⟩⟩⟩

structure Env where
  levels : List Level
  deriving Inhabited, DecidableEq
@[simp] def Env.enc (x : Env) : List AV := [.fs none (x.levels.map Level.enc)]
theorem Env.ok : EncF 1 Env.enc := ⟨⟨fun _ => rfl, fun _ => rfl⟩, fun _ _ _ _ => rfl⟩
@[simp] theorem Env.eta (x : Env) : (⟨x.levels⟩ : Env) = x := rfl
def Env.W (x : Env) : Nat := WS Level.W x.levels
def Env.Ok (x : Env) : Prop := (x.levels.length ≤ maxLen ∧ ∀ y ∈ x.levels, Level.Ok y)
def Env.ty : List Ty := [.sl 6 Level.ty]
theorem Env.dec : ∀ r, TyL Env.ty r → ∃ x : Env, r = x.enc ∧ x.Ok := by
  rintro r ⟨_, _, rfl, o0, rfl⟩
  obtain ⟨a0, rfl, o0l, o0m⟩ := sl_dec (enc := Level.enc) (ok := fun z => Level.Ok z) Level.dec o0
  exact ⟨⟨a0⟩, rfl, ⟨o0l, o0m⟩⟩

end Go.Proofs.Ytojmemlbajnhhaa
