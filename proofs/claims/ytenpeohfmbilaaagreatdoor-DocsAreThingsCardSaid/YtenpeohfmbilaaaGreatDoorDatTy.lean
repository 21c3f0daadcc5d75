/- A part of the proof. -/
import Derived.Test.YtenpeohfmbilaaaGreatDoorDatK3
set_option maxRecDepth 100000
set_option linter.unusedVariables false
namespace Go.DB
open Go Go.RowKit
structure Box where
 X:Int
 Y:Int
 W_:Int
 H:Int
 deriving Inhabited,DecidableEq
instance:Rep Box:=Rep.via (fun x=>(x.X,x.Y,x.W_,x.H))
instance:Flat Box:=Flat.via _
instance:Fits Box:=⟨fun x=>zF x.X∧zF x.Y∧zF x.W_∧zF x.H⟩
instance:FitsRep Box:=⟨fun h=>FitsRep.of (α:=Int×Int×Int×Int) h⟩
structure zh where
 Id:Str
 Kind:Int
 Box:Box
 Text:Str
 Class:Str
 Parent:Str
 Locked:Bool
 deriving Inhabited,DecidableEq
instance:Rep zh:=Rep.via (fun x=>(x.Id,x.Kind,x.Box,x.Text,x.Class,x.Parent,x.Locked))
instance:Flat zh:=Flat.via _
instance:Fits zh:=⟨fun x=>zF x.Id∧zF x.Kind∧zF x.Box∧zF x.Text∧zF x.Class∧zF x.Parent∧zF x.Locked⟩
instance:FitsRep zh:=⟨fun h=>FitsRep.of (α:=Str×Int×Box×Str×Str×Str×Bool) h⟩
structure zO where
 Node:Str
 Side:Int
 At:Int
 deriving Inhabited,DecidableEq
instance:Rep zO:=Rep.via (fun x=>(x.Node,x.Side,x.At))
instance:Flat zO:=Flat.via _
instance:Fits zO:=⟨fun x=>zF x.Node∧zF x.Side∧zF x.At⟩
instance:FitsRep zO:=⟨fun h=>FitsRep.of (α:=Str×Int×Int) h⟩
structure zz where
 X:Int
 Y:Int
 deriving Inhabited,DecidableEq
instance:Rep zz:=Rep.via (fun x=>(x.X,x.Y))
instance:Flat zz:=Flat.via _
instance:Fits zz:=⟨fun x=>zF x.X∧zF x.Y⟩
instance:FitsRep zz:=⟨fun h=>FitsRep.of (α:=Int×Int) h⟩
structure zu where
 Id:Str
 From:zO
 To:zO
 Bends:(List zz)
 Text:Str
 Class:Str
 deriving Inhabited,DecidableEq
instance:Rep zu:=Rep.via (fun x=>(x.Id,x.From,x.To,x.Bends,x.Text,x.Class))
instance:Fits zu:=⟨fun x=>zF x.Id∧zF x.From∧zF x.To∧zF x.Bends∧zF x.Text∧zF x.Class⟩
instance:FitsRep zu:=⟨fun h=>FitsRep.of (α:=Str×zO×zO×(List zz)×Str×Str) h⟩
structure Doc where
 Nodes:(List zh)
 Edges:(List zu)
 deriving Inhabited,DecidableEq
instance:Rep Doc:=Rep.via (fun x=>(x.Nodes,x.Edges))
instance:Fits Doc:=⟨fun x=>zF x.Nodes∧zF x.Edges⟩
instance:FitsRep Doc:=⟨fun h=>FitsRep.of (α:=(List zh)×(List zu)) h⟩
structure zU where
 Field:Str
 Value:Str
 deriving Inhabited,DecidableEq
instance:Rep zU:=Rep.via (fun x=>(x.Field,x.Value))
instance:Flat zU:=Flat.via _
instance:Fits zU:=⟨fun x=>zF x.Field∧zF x.Value⟩
instance:FitsRep zU:=⟨fun h=>FitsRep.of (α:=Str×Str) h⟩
structure zv where
 Id:Str
 Attrs:(List zU)
 deriving Inhabited,DecidableEq
instance:Rep zv:=Rep.via (fun x=>(x.Id,x.Attrs))
instance:Fits zv:=⟨fun x=>zF x.Id∧zF x.Attrs⟩
instance:FitsRep zv:=⟨fun h=>FitsRep.of (α:=Str×(List zU)) h⟩
structure yw where
 d:Doc
 number:(GMap Str Int)
 members:(GMap Str (List Int))
 deriving Inhabited
instance:Rep yw:=Rep.via (fun x=>(x.d,x.number,x.members))
instance:Fits yw:=⟨fun x=>zF x.d∧zF x.number∧zF x.members⟩
instance:FitsRep yw:=⟨fun h=>FitsRep.of (α:=Doc×(GMap Str Int)×(GMap Str (List Int))) h⟩
structure vD where
 d:Doc
 number:Raw
 members:Raw
 deriving Inhabited
instance:Rep vD:=Rep.via (fun x=>(x.d,x.number,x.members))
structure qN where
 Id:Str
 Attrs:Raw
 deriving Inhabited
instance:Rep qN:=Rep.via (fun x=>(x.Id,x.Attrs))
structure Stamp where
 Time:Int
 Site:Str
 No:Int
 deriving Inhabited,DecidableEq
instance:Rep Stamp:=Rep.via (fun x=>(x.Time,x.Site,x.No))
instance:Flat Stamp:=Flat.via _
instance:Fits Stamp:=⟨fun x=>zF x.Time∧zF x.Site∧zF x.No⟩
instance:FitsRep Stamp:=⟨fun h=>FitsRep.of (α:=Int×Str×Int) h⟩
structure DOp where
 Stamp:Stamp
 Kind:Int
 Id:Str
 Field:Str
 Value:Str
 Of:Int
 deriving Inhabited,DecidableEq
instance:Rep DOp:=Rep.via (fun x=>(x.Stamp,x.Kind,x.Id,x.Field,x.Value,x.Of))
instance:Flat DOp:=Flat.via _
instance:Fits DOp:=⟨fun x=>zF x.Stamp∧zF x.Kind∧zF x.Id∧zF x.Field∧zF x.Value∧zF x.Of⟩
instance:FitsRep DOp:=⟨fun h=>FitsRep.of (α:=Stamp×Int×Str×Str×Str×Int) h⟩
structure zf where
 z:Int
 node:(Option zh)
 edge:(Option zu)
 deriving Inhabited
instance:Rep zf:=Rep.via (fun x=>(x.z,x.node,x.edge))
instance:Fits zf:=⟨fun x=>zF x.z∧zF x.node∧zF x.edge⟩
instance:FitsRep zf:=⟨fun h=>FitsRep.of (α:=Int×(Option zh)×(Option zu)) h⟩
structure jv where
 z:Int
 node:Raw
 edge:Raw
 deriving Inhabited
instance:Rep jv:=Rep.via (fun x=>(x.z,x.node,x.edge))
structure qL where
 Nodes:Raw
 Edges:Raw
 deriving Inhabited
instance:Rep qL:=Rep.via (fun x=>(x.Nodes,x.Edges))
structure yt where
 z:Int
 id:Str
 x:zh
 deriving Inhabited,DecidableEq
instance:Rep yt:=Rep.via (fun x=>(x.z,x.id,x.x))
instance:Flat yt:=Flat.via _
instance:Fits yt:=⟨fun x=>zF x.z∧zF x.id∧zF x.x⟩
instance:FitsRep yt:=⟨fun h=>FitsRep.of (α:=Int×Str×zh) h⟩
structure yu where
 z:Int
 id:Str
 x:zu
 deriving Inhabited,DecidableEq
instance:Rep yu:=Rep.via (fun x=>(x.z,x.id,x.x))
instance:Fits yu:=⟨fun x=>zF x.z∧zF x.id∧zF x.x⟩
instance:FitsRep yu:=⟨fun h=>FitsRep.of (α:=Int×Str×zu) h⟩
end Go.DB
