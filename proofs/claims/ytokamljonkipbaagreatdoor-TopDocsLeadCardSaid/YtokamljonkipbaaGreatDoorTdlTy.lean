/- A part of the proof. -/
import Derived.Test.YtokamljonkipbaaGreatDoorTdlK3
import Derived.Test.YtokamljonkipbaaGreatDoorTdlK4
set_option maxRecDepth 100000
set_option linter.unusedVariables false
namespace Go.DB
open Go Go.RowKit
structure zR where
 Field:Str
 Value:Str
 deriving Inhabited,DecidableEq
instance:Rep zR:=Rep.via (fun x=>(x.Field,x.Value))
instance:Flat zR:=Flat.via _
instance:Fits zR:=⟨fun x=>zT x.Field∧zT x.Value⟩
instance:FitsRep zR:=⟨fun h=>FitsRep.of (α:=Str×Str) h⟩
structure zu where
 Id:Str
 Attrs:(List zR)
 deriving Inhabited,DecidableEq
instance:Rep zu:=Rep.via (fun x=>(x.Id,x.Attrs))
instance:Fits zu:=⟨fun x=>zT x.Id∧zT x.Attrs⟩
instance:FitsRep zu:=⟨fun h=>FitsRep.of (α:=Str×(List zR)) h⟩
structure Box where
 X:Int
 Y:Int
 W_:Int
 H:Int
 deriving Inhabited,DecidableEq
instance:Rep Box:=Rep.via (fun x=>(x.X,x.Y,x.W_,x.H))
instance:Flat Box:=Flat.via _
instance:Fits Box:=⟨fun x=>zT x.X∧zT x.Y∧zT x.W_∧zT x.H⟩
instance:FitsRep Box:=⟨fun h=>FitsRep.of (α:=Int×Int×Int×Int) h⟩
structure zl where
 Id:Str
 Kind:Int
 Box:Box
 Text:Str
 Class:Str
 Parent:Str
 Locked:Bool
 deriving Inhabited,DecidableEq
instance:Rep zl:=Rep.via (fun x=>(x.Id,x.Kind,x.Box,x.Text,x.Class,x.Parent,x.Locked))
instance:Flat zl:=Flat.via _
instance:Fits zl:=⟨fun x=>zT x.Id∧zT x.Kind∧zT x.Box∧zT x.Text∧zT x.Class∧zT x.Parent∧zT x.Locked⟩
instance:FitsRep zl:=⟨fun h=>FitsRep.of (α:=Str×Int×Box×Str×Str×Str×Bool) h⟩
structure yg where
 Node:Str
 Side:Int
 At:Int
 deriving Inhabited,DecidableEq
instance:Rep yg:=Rep.via (fun x=>(x.Node,x.Side,x.At))
instance:Flat yg:=Flat.via _
instance:Fits yg:=⟨fun x=>zT x.Node∧zT x.Side∧zT x.At⟩
instance:FitsRep yg:=⟨fun h=>FitsRep.of (α:=Str×Int×Int) h⟩
structure zJ where
 X:Int
 Y:Int
 deriving Inhabited,DecidableEq
instance:Rep zJ:=Rep.via (fun x=>(x.X,x.Y))
instance:Flat zJ:=Flat.via _
instance:Fits zJ:=⟨fun x=>zT x.X∧zT x.Y⟩
instance:FitsRep zJ:=⟨fun h=>FitsRep.of (α:=Int×Int) h⟩
structure zA where
 Id:Str
 From:yg
 To:yg
 Bends:(List zJ)
 Text:Str
 Class:Str
 deriving Inhabited,DecidableEq
instance:Rep zA:=Rep.via (fun x=>(x.Id,x.From,x.To,x.Bends,x.Text,x.Class))
instance:Fits zA:=⟨fun x=>zT x.Id∧zT x.From∧zT x.To∧zT x.Bends∧zT x.Text∧zT x.Class⟩
instance:FitsRep zA:=⟨fun h=>FitsRep.of (α:=Str×yg×yg×(List zJ)×Str×Str) h⟩
structure Doc where
 Nodes:(List zl)
 Edges:(List zA)
 deriving Inhabited,DecidableEq
instance:Rep Doc:=Rep.via (fun x=>(x.Nodes,x.Edges))
instance:Fits Doc:=⟨fun x=>zT x.Nodes∧zT x.Edges⟩
instance:FitsRep Doc:=⟨fun h=>FitsRep.of (α:=(List zl)×(List zA)) h⟩
structure zz where
 Class:Str
 Prop_:Str
 Value:Str
 deriving Inhabited,DecidableEq
instance:Rep zz:=Rep.via (fun x=>(x.Class,x.Prop_,x.Value))
instance:Flat zz:=Flat.via _
instance:Fits zz:=⟨fun x=>zT x.Class∧zT x.Prop_∧zT x.Value⟩
instance:FitsRep zz:=⟨fun h=>FitsRep.of (α:=Str×Str×Str) h⟩
structure yr where
 d:Doc
 number:(GMap Str Int)
 members:(GMap Str (List Int))
 deriving Inhabited
instance:Rep yr:=Rep.via (fun x=>(x.d,x.number,x.members))
instance:Fits yr:=⟨fun x=>zT x.d∧zT x.number∧zT x.members⟩
instance:FitsRep yr:=⟨fun h=>FitsRep.of (α:=Doc×(GMap Str Int)×(GMap Str (List Int))) h⟩
structure vv where
 d:Doc
 number:Raw
 members:Raw
 deriving Inhabited
instance:Rep vv:=Rep.via (fun x=>(x.d,x.number,x.members))
structure yF where
 Nodes:Raw
 Edges:Raw
 deriving Inhabited
instance:Rep yF:=Rep.via (fun x=>(x.Nodes,x.Edges))
structure yQ where
 l:(List Str)
 deriving Inhabited,DecidableEq
instance:Rep yQ:=Rep.via (fun x=>(x.l))
instance:Fits yQ:=⟨fun x=>zT x.l⟩
instance:FitsRep yQ:=⟨fun h=>FitsRep.of (α:=(List Str)) h⟩
structure jO where
 Id:Str
 Attrs:Raw
 deriving Inhabited
instance:Rep jO:=Rep.via (fun x=>(x.Id,x.Attrs))
structure Stamp where
 Time:Int
 Site:Str
 No:Int
 deriving Inhabited,DecidableEq
instance:Rep Stamp:=Rep.via (fun x=>(x.Time,x.Site,x.No))
instance:Flat Stamp:=Flat.via _
instance:Fits Stamp:=⟨fun x=>zT x.Time∧zT x.Site∧zT x.No⟩
instance:FitsRep Stamp:=⟨fun h=>FitsRep.of (α:=Int×Str×Int) h⟩
structure DOp where
 Stamp:Stamp
 Kind:Int
 Id:Str
 Field:Str
 Value:Str
 Of:Int
 deriving Inhabited,DecidableEq
instance:Rep DOp:=Rep.via (fun x=>(x.Stamp,x.Kind,x.Id,x.Field,x.Value,x.Of))
instance:Flat DOp:=Flat.via _
instance:Fits DOp:=⟨fun x=>zT x.Stamp∧zT x.Kind∧zT x.Id∧zT x.Field∧zT x.Value∧zT x.Of⟩
instance:FitsRep DOp:=⟨fun h=>FitsRep.of (α:=Stamp×Int×Str×Str×Str×Int) h⟩
structure yh where
 doc:Doc
 rules:(List zz)
 deriving Inhabited,DecidableEq
instance:Rep yh:=Rep.via (fun x=>(x.doc,x.rules))
instance:Fits yh:=⟨fun x=>zT x.doc∧zT x.rules⟩
instance:FitsRep yh:=⟨fun h=>FitsRep.of (α:=Doc×(List zz)) h⟩
structure zY where
 now:yh
 past:(List yh)
 next:(List yh)
 deriving Inhabited,DecidableEq
instance:Rep zY:=Rep.via (fun x=>(x.now,x.past,x.next))
instance:Fits zY:=⟨fun x=>zT x.now∧zT x.past∧zT x.next⟩
instance:FitsRep zY:=⟨fun h=>FitsRep.of (α:=yh×(List yh)×(List yh)) h⟩
structure yl where
 now:yh
 past:Raw
 next:(List yh)
 deriving Inhabited
instance:Rep yl:=Rep.via (fun x=>(x.now,x.past,x.next))
structure zbD where
 Nodes:Raw
 Edges:(List zA)
 deriving Inhabited
instance:Rep zbD:=Rep.via (fun x=>(x.Nodes,x.Edges))
end Go.DB
